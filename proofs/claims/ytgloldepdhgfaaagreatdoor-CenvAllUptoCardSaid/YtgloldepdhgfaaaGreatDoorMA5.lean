/-
  MA5: the texts Ccm Ccw Ccr Kse Trt Tct Kct Tl2 Tl3 C5 Hvp Htf Hg Hv Hh Cvc Cvf Cvg Cvh If1 If2 If3 If4 If5 If6, one behind the other.
-/
import Derived.Test.YtgloldepdhgfaaaGreatDoorMA4
namespace Go.Proofs.YtgloldepdhgfaaaGreatDoor
set_option linter.unusedSimpArgs false
set_option linter.unusedVariables false
set_option maxHeartbeats 10000000
set_option maxRecDepth 20000
open Go.RowKit
attribute [local simp] Qx Qm Qo Qp Wn Xg opD Qz Qr Qw Wi hOf Wj Xf Xd TK.isAgg TK.known Ws Wk Wc Qh D.ofV inB Wb Wp Xx Xz Zg Xc Xv Zh IntKind.min IntKind.max IntKind.signed IntKind.bits Wl Xy
def idxOf(b:Bool):List Bool ->Int ->Int
 | [],_=> -1
 | x::r,i=>if b=x then i else idxOf b r (i+1)
theorem Wcu{b:Bool}{l:List Bool}{k:Nat}(h:k<l.length):idxOf b (l.drop k) k=if b=l[k] then(k:Int)else idxOf b (l.drop (k+1)) ((k+1:Nat):Int):=by
 rw [List.drop_eq_getElem_cons h,idxOf];simp
theorem Qrt(l:List Bool)(b:Bool)(hl:l.length<=Ql):Sp 196 [Ww l, .bool b] [] (rt (.int .i64 (idxOf b l 0))):=by
 obtain⟨R,hR⟩:∃R,R=idxOf b l 0:=⟨_,rfl⟩;rw [<- hR];refine eN Tryz.func196 rfl (by decide) rfl rfl ?_;unfold Ww;(refine sR fun K hK=>?_;(repeat rw [Qa];simp);refine hK _ _ _ ?_;clear hK K);refine Qc fun K1 hK1=>?_
 (refine sR fun K hK=>?_;(repeat rw [Qa];simp);refine hK _ _ _ ?_;clear hK K);refine Xm Wa Qf (ti:=3) (tk:=8) (tn:=7) (td:=9) (ts:=18) [4,5,8,9,10,11,12,13,14,15,16,17,18] [] (l.length) (fun k ys hl=>ys= []/\R=idxOf b (l.drop k) k/\hl= []) rfl rfl rfl rfl rfl rfl rfl rfl rfl rfl rfl rfl (by simp) (by decide) rfl (by first | assumption | omega | (unfold Ql;omega)) rfl (by kernel_rfl) (by decide) ?_ ?_ ?_
 ·exact⟨rfl,hR,rfl⟩
 ·rintro i ys hl A hi ⟨rfl,hF,rfl⟩ hA hA2;simp only [Qh,List.set,List.map_cons,List.map_nil,List.cons_append,List.nil_append];have hi':(i:Int)<l.length:=by omega
  rw [Wcu hi]at hF;obtain⟨x,hx⟩:∃x,l[i]=x:=⟨_,rfl⟩;rw [hx]at hF;(refine sR fun K hK=>?_;(repeat rw [Qa];simp);refine hK _ _ _ ?_;clear hK K);(refine sR fun K hK=>?_;(repeat rw [Qa];simp [hi,hi',hx,Qrb]);refine hK _ _ _ ?_;clear hK K);by_cases hb:b=x
  ·rw [if_pos hb]at hF;subst hb;refine Qad rfl (fun _=>?_) (fun h=>absurd h (by simp));(refine sR fun K hK=>?_;(repeat rw [Qa];simp);refine hK _ _ _ ?_;clear hK K);(refine Qe ?_;(try simp only [zs]);refine Qk.ret rfl (.inl ?_);simp [zM]);exact hF.symm
  ·rw [if_neg hb]at hF;refine Qad rfl (fun h=>absurd (by simpa using h) hb) (fun _=>?_);refine Qg ?_;(refine hA2 ([]) _ _ _ (LeT.refl _) (by decide) (by simp) (by simp [zM,Qh]) ?_ rfl;simp [zM]);exact hF
 ·rintro ys hl tl' ⟨rfl,hF,rfl⟩ htl;refine hK1 _ _ _ (Xn htl ?_);simp only [Qh,List.set,List.map_cons,List.map_nil,List.cons_append,List.nil_append];rw [List.drop_length,idxOf]at hF;subst hF;(refine sR fun K hK=>?_;(repeat rw [Qa];simp);refine hK _ _ _ ?_;clear hK K);(refine Qe ?_;(try simp only [zs]);refine Qk.ret rfl (.inl ?_);simp [zM])
theorem Qy1:∀(l:List Bool) (b:Bool) (i:Int),0<=i ->(0<=idxOf b l i↔b∈l)
 | [],b,i,h=>by simp [idxOf]
 | x::r,b,i,h=>by
  rw [idxOf];by_cases hx:b=x
  ·simp [hx,h]
  ·rw [if_neg hx,Qy1 r b (i+1) (by omega)];simp [hx]
theorem Qlj(l:List Bool)(b:Bool)(hl:l.length<=Ql):Sp 150 [Ww l, .bool b] [] (rt (.bool (decide (b∈l)))):=by
 refine eN Tryz.func150 rfl (by decide) rfl rfl ?_;unfold Ww;(refine sR fun K hK=>?_;(repeat rw [Qa];simp);refine hK _ _ _ ?_;clear hK K);(refine sR fun K hK=>?_;(repeat rw [Qa];simp));refine Wm.pure Qf (Qrt l b hl) ?_ (by simp [D.fgts,D.fgt,Ww]) (by simp [D.pures,D.pure,Cp.free,D.pures_map,Ww]) (by simp [Out.pure,D.pure,D.pures,Cp.free,D.pures_map,Ww]);(try simp only [zr]);(repeat rw [Qa];simp);(refine hK _ _ _ ?_;clear hK K);(refine Qe ?_;(try simp only [zs]);refine Qk.ret rfl (.inl ?_);simp [zM]);exact Qy1 l b 0 (by omega)
def We:D:= .iface 146 (.agg [])
theorem Qo0(l:List Bool)(hl:l.length<=Ql):Sp 104 [Ww l] [] (fun o _=>o.fgt=if false∈l then .pan We else .ret (.tuple [])):=by
 refine eN Tryz.func104 rfl (by decide) rfl rfl ?_;unfold Ww;(refine sR fun K hK=>?_;(repeat rw [Qa];simp));refine Wm.pure Qf (Qlj l false hl) ?_ (by simp [D.fgts,D.fgt,Ww]) (by simp [D.pures,D.pure,Cp.free,D.pures_map,Ww]) (by simp [Out.pure,D.pure,D.pures,Cp.free,D.pures_map,Ww]);(try simp only [zr]);(repeat rw [Qa];simp);(refine hK _ _ _ ?_;clear hK K);refine Qad rfl (fun h=>?_) (fun h=>?_)
 ·replace h:false∈l:=by simpa using h
  (refine Qi Wa ?_;(repeat rw [Qa];simp));((try simp only [zs]);refine Qk.pan (.inl ?_);simp [Out.fgt,D.fgt,D.fgts]);simp [h,We]
 ·replace h:¬ false∈l:=by simpa using h
  refine Qg ?_;((try simp only [zs]);refine Qk.nrm rfl (.inl ?_);simp [zM]);simp [h]
theorem Qc1(l:List Bool)(h:l.all id=true)(hl:l.length<=Ql:=by simp [Ql]):Sp 104 [Ww l] [] (rt (.tuple [])):=by
 have:=Qo0 l hl;rw [if_neg (by simpa using h)]at this;exact this
theorem Qc2(l:List Bool)(h:l.all id=false)(hl:l.length<=Ql:=by simp [Ql]):Sp 104 [Ww l] [] (fun o _=>o.fgt= .pan We):=by
 have:=Qo0 l hl;rw [if_pos (by simpa using h)]at this;exact this
def Xp(b:Bool)(d:D):Out:=if b then .ret d else .pan We
theorem Qel(t:T):Sp 198 [Qj t] [] (fun o _=>o.fgt=Xp (Qfs t) (.tuple [])):=by
 refine eN Tryz.func198 rfl (by decide) rfl rfl ?_;(refine sR fun K hK=>?_;(repeat rw [Qa];simp);refine hK _ _ _ ?_;clear hK K);cases hb:Qfs t with
 | true =>
  (refine Qi Wa ?_;(repeat rw [Qa];simp));refine Wm.pure Qf (Qc1 [decide (t.n=0),decide (t.a=0),decide (t.ls= [])] (by simpa [Qfs,and_assoc]using hb)) ?_ (by simp [D.fgts,D.fgt,Ww]) (by simp [D.pures,D.pure,Cp.free,D.pures_map,Ww]) (by simp [Out.pure,D.pure,D.pures,Cp.free,D.pures_map,Ww]);(try simp only [zr]);(repeat rw [Qa];simp);((try simp only [zs]);refine Qk.nrm rfl (.inl ?_);simp [zM]);rfl
 | false =>
  (refine Qi Wa ?_;(repeat rw [Qa];simp));refine Wm.pure Qf (Qc2 [decide (t.n=0),decide (t.a=0),decide (t.ls= [])] (by simpa [Qfs, -Bool.and_eq_false_imp,Bool.and_assoc]using hb)) ?_ (by simp [D.fgts,D.fgt,Ww,We]) (by simp [D.pures,D.pure,Cp.free,D.pures_map,Ww,We]) (by simp [Out.pure,D.pure,D.pures,Cp.free,D.pures_map,Ww,We]);(try simp only [zr]);(repeat rw [Qa];simp);((try simp only [zs]);refine Qk.pan (.inl ?_);simp [Out.fgt,D.fgt,D.fgts]);rfl
def Qb1(n sc:Int):D:= .agg [.int .i64 n, .int .i64 sc]
theorem Qqy(n sc m:Int):Sp 164 [Qb1 n sc, .int .i64 m] [] (rt (Qb1 n (IntKind.i64.wrap (sc+m)))):=by
 refine eN Tryz.func164 rfl (by decide) rfl rfl ?_;unfold Qb1;(refine sR fun K hK=>?_;(repeat rw [Qa];simp);refine hK _ _ _ ?_;clear hK K);(refine sR fun K hK=>?_;(repeat rw [Qa];simp);refine hK _ _ _ ?_;clear hK K);(refine Qe ?_;(try simp only [zs]);refine Qk.ret rfl (.inl ?_);simp [zM])
def Qe5:List (Int×FuncId):= [(1,151),(2,152),(3,153),(4,154),(5,154),(6,154),(7,155),
 (12,154),(13,154),(14,156),(15,156),(16,154),(17,154),(18,157),(19,155),
 (20,158),(21,159),(22,160),(23,161),(24,162)]
def Qd1:List D:=Qe5.map fun p=> .int .i64 p.1
def Qdz:List D:=Qe5.map fun p=> .fn (.func p.2) [] []
def Qav:D:= .mapc Qd1 Qdz
@[simp high] theorem coreMap_fgt:Qav.fgt=Qav:=rfl
@[simp high] theorem Qd0:Qav.pure=true:=by kernel_rfl
@[simp high] theorem coreMap_one:Qav.one=true:=rfl
@[simp high] theorem Wda:Qav.cells= [Qav]:=rfl
@[simp high] theorem Wd5:Qav.size=1:=rfl
@[simp high] theorem coreMap_frz (bx:FK) (i:Nat) (x:D):D.frz bx i x Qav=Qav:=D.frz_pure bx i x _ Qd0
@[simp high] theorem coreMap_low (m:Nat):Qav.low m=true:=D.low_pure m _ Qd0
@[simp high] theorem Qhv:D.pures Qd1=true:=by kernel_rfl
@[simp high] theorem Qhu:D.pures Qdz=true:=by kernel_rfl
@[simp high] theorem Wd7 (p:Nat ->Bool):D.okNs p Qd1=true:=D.okNs_pure p _ Qhv
@[simp high] theorem Wd4 (p:Nat ->Bool):D.okNs p Qdz=true:=D.okNs_pure p _ Qhu
@[simp high] theorem Wd6 (σ:Nat ->Nat):D.rens σ Qd1=Qd1:=D.rens_pure σ _ Qhv
@[simp high] theorem Wd3 (σ:Nat ->Nat):D.rens σ Qdz=Qdz:=D.rens_pure σ _ Qhu
@[simp high] theorem coreMap_okN (p:Nat ->Bool):D.okN p Qav=true:=D.okN_pure p _ Qd0
@[simp high] theorem coreMap_ren (σ:Nat ->Nat):D.ren σ Qav=Qav:=D.ren_pure σ _ Qd0
def Qb4(n sc:Int)(cs:List Int):D:= .agg [.int .i64 n, .int .i64 sc,Qd3 cs,Qav]
theorem Wa3(n sc:Int)(cs:List Int)(t:T):Sp 154 [Qb4 n sc cs,Qj t] [] (fun o _=>o.fgt=Xp (Qfs t) (.int .i64 2)):=by
 refine eN Tryz.func154 rfl (by decide) rfl rfl ?_;unfold Qb4 Qd3;(refine sR fun K hK=>?_;(repeat rw [Qa];simp);refine hK _ _ _ ?_;clear hK K);have hb:=Qel t;cases h:Qfs t with
 | true =>
  simp only [h,Xp,if_true,if_false,Bool.false_eq_true]at hb;(refine sR fun K hK=>?_;(repeat rw [Qa];simp));refine Wm.pure Qf (hb) ?_ (by simp [D.fgts,D.fgt,Qb t]) (by simp [D.pures,D.pure,Cp.free,D.pures_map,Qb t]) (by simp [Out.pure,D.pure,D.pures,Cp.free,D.pures_map,Qb t]);(try simp only [zr]);(repeat rw [Qa];simp);(refine hK _ _ _ ?_;clear hK K);(refine sR fun K hK=>?_;(repeat rw [Qa];simp);refine hK _ _ _ ?_;clear hK K);(refine Qe ?_;(try simp only [zs]);refine Qk.ret rfl (.inl ?_);simp [zM]);rfl
 | false =>
  simp only [h,Xp,if_true,if_false,Bool.false_eq_true]at hb;(refine sR fun K hK=>?_;(repeat rw [Qa];simp));refine Wm.pure Qf (hb) ?_ (by simp [D.fgts,D.fgt,Qb t,We]) (by simp [D.pures,D.pure,Cp.free,D.pures_map,Qb t,We]) (by simp [Out.pure,D.pure,D.pures,Cp.free,D.pures_map,Qb t,We]);(try simp only [zr]);(repeat rw [Qa];simp);((try simp only [zs]);refine Qk.pan (.inl ?_);simp [Out.fgt,D.fgt,D.fgts]);rfl
theorem Quj(n sc:Int)(cs:List Int)(t:T):Sp 155 [Qb4 n sc cs,Qj t] [] (fun o _=>o.fgt=Xp (Qfs t) (.int .i64 3)):=by
 refine eN Tryz.func155 rfl (by decide) rfl rfl ?_;unfold Qb4 Qd3;(refine sR fun K hK=>?_;(repeat rw [Qa];simp);refine hK _ _ _ ?_;clear hK K);have hb:=Qel t;cases h:Qfs t with
 | true =>
  simp only [h,Xp,if_true,if_false,Bool.false_eq_true]at hb;(refine sR fun K hK=>?_;(repeat rw [Qa];simp));refine Wm.pure Qf (hb) ?_ (by simp [D.fgts,D.fgt,Qb t]) (by simp [D.pures,D.pure,Cp.free,D.pures_map,Qb t]) (by simp [Out.pure,D.pure,D.pures,Cp.free,D.pures_map,Qb t]);(try simp only [zr]);(repeat rw [Qa];simp);(refine hK _ _ _ ?_;clear hK K);(refine sR fun K hK=>?_;(repeat rw [Qa];simp);refine hK _ _ _ ?_;clear hK K);(refine Qe ?_;(try simp only [zs]);refine Qk.ret rfl (.inl ?_);simp [zM]);rfl
 | false =>
  simp only [h,Xp,if_true,if_false,Bool.false_eq_true]at hb;(refine sR fun K hK=>?_;(repeat rw [Qa];simp));refine Wm.pure Qf (hb) ?_ (by simp [D.fgts,D.fgt,Qb t,We]) (by simp [D.pures,D.pure,Cp.free,D.pures_map,Qb t,We]) (by simp [Out.pure,D.pure,D.pures,Cp.free,D.pures_map,Qb t,We]);(try simp only [zr]);(repeat rw [Qa];simp);((try simp only [zs]);refine Qk.pan (.inl ?_);simp [Out.fgt,D.fgt,D.fgts]);rfl
theorem Wb1(n sc:Int)(cs:List Int)(t:T):Sp 156 [Qb4 n sc cs,Qj t] [] (fun o _=>o.fgt=Xp (Qfs t) (.int .i64 1)):=by
 refine eN Tryz.func156 rfl (by decide) rfl rfl ?_;unfold Qb4 Qd3;(refine sR fun K hK=>?_;(repeat rw [Qa];simp);refine hK _ _ _ ?_;clear hK K);have hb:=Qel t;cases h:Qfs t with
 | true =>
  simp only [h,Xp,if_true,if_false,Bool.false_eq_true]at hb;(refine sR fun K hK=>?_;(repeat rw [Qa];simp));refine Wm.pure Qf (hb) ?_ (by simp [D.fgts,D.fgt,Qb t]) (by simp [D.pures,D.pure,Cp.free,D.pures_map,Qb t]) (by simp [Out.pure,D.pure,D.pures,Cp.free,D.pures_map,Qb t]);(try simp only [zr]);(repeat rw [Qa];simp);(refine hK _ _ _ ?_;clear hK K);(refine sR fun K hK=>?_;(repeat rw [Qa];simp);refine hK _ _ _ ?_;clear hK K);(refine Qe ?_;(try simp only [zs]);refine Qk.ret rfl (.inl ?_);simp [zM]);rfl
 | false =>
  simp only [h,Xp,if_true,if_false,Bool.false_eq_true]at hb;(refine sR fun K hK=>?_;(repeat rw [Qa];simp));refine Wm.pure Qf (hb) ?_ (by simp [D.fgts,D.fgt,Qb t,We]) (by simp [D.pures,D.pure,Cp.free,D.pures_map,Qb t,We]) (by simp [Out.pure,D.pure,D.pures,Cp.free,D.pures_map,Qb t,We]);(try simp only [zr]);(repeat rw [Qa];simp);((try simp only [zs]);refine Qk.pan (.inl ?_);simp [Out.fgt,D.fgt,D.fgts]);rfl
theorem Qzb(n sc:Int)(cs:List Int)(t:T):Sp 157 [Qb4 n sc cs,Qj t] [] (fun o _=>o.fgt=Xp (Qfs t) (.int .i64 5)):=by
 refine eN Tryz.func157 rfl (by decide) rfl rfl ?_;unfold Qb4 Qd3;(refine sR fun K hK=>?_;(repeat rw [Qa];simp);refine hK _ _ _ ?_;clear hK K);have hb:=Qel t;cases h:Qfs t with
 | true =>
  simp only [h,Xp,if_true,if_false,Bool.false_eq_true]at hb;(refine sR fun K hK=>?_;(repeat rw [Qa];simp));refine Wm.pure Qf (hb) ?_ (by simp [D.fgts,D.fgt,Qb t]) (by simp [D.pures,D.pure,Cp.free,D.pures_map,Qb t]) (by simp [Out.pure,D.pure,D.pures,Cp.free,D.pures_map,Qb t]);(try simp only [zr]);(repeat rw [Qa];simp);(refine hK _ _ _ ?_;clear hK K);(refine sR fun K hK=>?_;(repeat rw [Qa];simp);refine hK _ _ _ ?_;clear hK K);(refine Qe ?_;(try simp only [zs]);refine Qk.ret rfl (.inl ?_);simp [zM]);rfl
 | false =>
  simp only [h,Xp,if_true,if_false,Bool.false_eq_true]at hb;(refine sR fun K hK=>?_;(repeat rw [Qa];simp));refine Wm.pure Qf (hb) ?_ (by simp [D.fgts,D.fgt,Qb t,We]) (by simp [D.pures,D.pure,Cp.free,D.pures_map,Qb t,We]) (by simp [Out.pure,D.pure,D.pures,Cp.free,D.pures_map,Qb t,We]);(try simp only [zr]);(repeat rw [Qa];simp);((try simp only [zs]);refine Qk.pan (.inl ?_);simp [Out.fgt,D.fgt,D.fgts]);rfl
theorem Qym(n sc:Int)(cs:List Int)(t:T):Sp 158 [Qb4 n sc cs,Qj t] [] (fun o _=>o.fgt=Xp (Qfs t) (.int .i64 0)):=by
 refine eN Tryz.func158 rfl (by decide) rfl rfl ?_;unfold Qb4 Qd3;(refine sR fun K hK=>?_;(repeat rw [Qa];simp);refine hK _ _ _ ?_;clear hK K);have hb:=Qel t;cases h:Qfs t with
 | true =>
  simp only [h,Xp,if_true,if_false,Bool.false_eq_true]at hb;(refine sR fun K hK=>?_;(repeat rw [Qa];simp));refine Wm.pure Qf (hb) ?_ (by simp [D.fgts,D.fgt,Qb t]) (by simp [D.pures,D.pure,Cp.free,D.pures_map,Qb t]) (by simp [Out.pure,D.pure,D.pures,Cp.free,D.pures_map,Qb t]);(try simp only [zr]);(repeat rw [Qa];simp);(refine hK _ _ _ ?_;clear hK K);(refine sR fun K hK=>?_;(repeat rw [Qa];simp);refine hK _ _ _ ?_;clear hK K);(refine Qe ?_;(try simp only [zs]);refine Qk.ret rfl (.inl ?_);simp [zM]);rfl
 | false =>
  simp only [h,Xp,if_true,if_false,Bool.false_eq_true]at hb;(refine sR fun K hK=>?_;(repeat rw [Qa];simp));refine Wm.pure Qf (hb) ?_ (by simp [D.fgts,D.fgt,Qb t,We]) (by simp [D.pures,D.pure,Cp.free,D.pures_map,Qb t,We]) (by simp [Out.pure,D.pure,D.pures,Cp.free,D.pures_map,Qb t,We]);(try simp only [zr]);(repeat rw [Qa];simp);((try simp only [zs]);refine Qk.pan (.inl ?_);simp [Out.fgt,D.fgt,D.fgts]);rfl
theorem Wbh(n sc:Int)(cs:List Int)(t:T):Sp 159 [Qb4 n sc cs,Qj t] [] (fun o _=>o.fgt=Xp (Qfs t) (.int .i64 6)):=by
 refine eN Tryz.func159 rfl (by decide) rfl rfl ?_;unfold Qb4 Qd3;(refine sR fun K hK=>?_;(repeat rw [Qa];simp);refine hK _ _ _ ?_;clear hK K);have hb:=Qel t;cases h:Qfs t with
 | true =>
  simp only [h,Xp,if_true,if_false,Bool.false_eq_true]at hb;(refine sR fun K hK=>?_;(repeat rw [Qa];simp));refine Wm.pure Qf (hb) ?_ (by simp [D.fgts,D.fgt,Qb t]) (by simp [D.pures,D.pure,Cp.free,D.pures_map,Qb t]) (by simp [Out.pure,D.pure,D.pures,Cp.free,D.pures_map,Qb t]);(try simp only [zr]);(repeat rw [Qa];simp);(refine hK _ _ _ ?_;clear hK K);(refine sR fun K hK=>?_;(repeat rw [Qa];simp);refine hK _ _ _ ?_;clear hK K);(refine Qe ?_;(try simp only [zs]);refine Qk.ret rfl (.inl ?_);simp [zM]);rfl
 | false =>
  simp only [h,Xp,if_true,if_false,Bool.false_eq_true]at hb;(refine sR fun K hK=>?_;(repeat rw [Qa];simp));refine Wm.pure Qf (hb) ?_ (by simp [D.fgts,D.fgt,Qb t,We]) (by simp [D.pures,D.pure,Cp.free,D.pures_map,Qb t,We]) (by simp [Out.pure,D.pure,D.pures,Cp.free,D.pures_map,Qb t,We]);(try simp only [zr]);(repeat rw [Qa];simp);((try simp only [zs]);refine Qk.pan (.inl ?_);simp [Out.fgt,D.fgt,D.fgts]);rfl
theorem Qml(n sc:Int)(cs:List Int)(t:T):Sp 151 [Qb4 n sc cs,Qj t] [] (fun o _=>o.fgt=Xp (Qb5 sc t) (.int .i64 0)):=by
 refine eN Tryz.func151 rfl (by decide) rfl rfl ?_;unfold Qb4 Qd3;(refine sR fun K hK=>?_;(repeat rw [Qa];simp);refine hK _ _ _ ?_;clear hK K);cases h:Qb5 sc t with
 | true =>
  (refine sR fun K hK=>?_;(repeat rw [Qa];simp));refine Wm.pure Qf (Qc1 [decide (0<=t.n),decide (t.n<sc),decide (t.a=0),decide (t.ls= [])] (by simpa [Qb5,and_assoc]using h)) ?_ (by simp [D.fgts,D.fgt,Ww]) (by simp [D.pures,D.pure,Cp.free,D.pures_map,Ww]) (by simp [Out.pure,D.pure,D.pures,Cp.free,D.pures_map,Ww]);(try simp only [zr]);(repeat rw [Qa];simp);(refine hK _ _ _ ?_;clear hK K);(refine sR fun K hK=>?_;(repeat rw [Qa];simp);refine hK _ _ _ ?_;clear hK K);(refine Qe ?_;(try simp only [zs]);refine Qk.ret rfl (.inl ?_);simp [zM]);rfl
 | false =>
  (refine sR fun K hK=>?_;(repeat rw [Qa];simp));refine Wm.pure Qf (Qc2 [decide (0<=t.n),decide (t.n<sc),decide (t.a=0),decide (t.ls= [])] (by simpa [Qb5, -Bool.and_eq_false_imp,Bool.and_assoc]using h)) ?_ (by simp [D.fgts,D.fgt,Ww,We]) (by simp [D.pures,D.pure,Cp.free,D.pures_map,Ww,We]) (by simp [Out.pure,D.pure,D.pures,Cp.free,D.pures_map,Ww,We]);(try simp only [zr]);(repeat rw [Qa];simp);((try simp only [zs]);refine Qk.pan (.inl ?_);simp [Out.fgt,D.fgt,D.fgts]);rfl
theorem Wcz(n sc:Int)(cs:List Int)(t:T):Sp 160 [Qb4 n sc cs,Qj t] [] (fun o _=>o.fgt=Xp (finB t) (.int .i64 0)):=by
 refine eN Tryz.func160 rfl (by decide) rfl rfl ?_;unfold Qb4 Qd3;(refine sR fun K hK=>?_;(repeat rw [Qa];simp);refine hK _ _ _ ?_;clear hK K);cases h:finB t with
 | true =>
  (refine sR fun K hK=>?_;(repeat rw [Qa];simp));refine Wm.pure Qf (Qc1 [decide (0<=t.n),decide (t.a=0),decide (t.ls= [])] (by simpa [finB,and_assoc]using h)) ?_ (by simp [D.fgts,D.fgt,Ww]) (by simp [D.pures,D.pure,Cp.free,D.pures_map,Ww]) (by simp [Out.pure,D.pure,D.pures,Cp.free,D.pures_map,Ww]);(try simp only [zr]);(repeat rw [Qa];simp);(refine hK _ _ _ ?_;clear hK K);(refine sR fun K hK=>?_;(repeat rw [Qa];simp);refine hK _ _ _ ?_;clear hK K);(refine Qe ?_;(try simp only [zs]);refine Qk.ret rfl (.inl ?_);simp [zM]);rfl
 | false =>
  (refine sR fun K hK=>?_;(repeat rw [Qa];simp));refine Wm.pure Qf (Qc2 [decide (0<=t.n),decide (t.a=0),decide (t.ls= [])] (by simpa [finB, -Bool.and_eq_false_imp,Bool.and_assoc]using h)) ?_ (by simp [D.fgts,D.fgt,Ww,We]) (by simp [D.pures,D.pure,Cp.free,D.pures_map,Ww,We]) (by simp [Out.pure,D.pure,D.pures,Cp.free,D.pures_map,Ww,We]);(try simp only [zr]);(repeat rw [Qa];simp);((try simp only [zs]);refine Qk.pan (.inl ?_);simp [Out.fgt,D.fgt,D.fgts]);rfl
theorem Qzm(n sc:Int)(cs:List Int)(t:T):Sp 161 [Qb4 n sc cs,Qj t] [] (fun o _=>o.fgt=Xp (Qzn t) (.int .i64 0)):=by
 refine eN Tryz.func161 rfl (by decide) rfl rfl ?_;unfold Qb4 Qd3;(refine sR fun K hK=>?_;(repeat rw [Qa];simp);refine hK _ _ _ ?_;clear hK K);cases h:Qzn t with
 | true =>
  (refine sR fun K hK=>?_;(repeat rw [Qa];simp));refine Wm.pure Qf (Qc1 [decide (0<=t.n),decide (t.n<t.a),decide (t.ls= [])] (by simpa [Qzn,and_assoc]using h)) ?_ (by simp [D.fgts,D.fgt,Ww]) (by simp [D.pures,D.pure,Cp.free,D.pures_map,Ww]) (by simp [Out.pure,D.pure,D.pures,Cp.free,D.pures_map,Ww]);(try simp only [zr]);(repeat rw [Qa];simp);(refine hK _ _ _ ?_;clear hK K);(refine sR fun K hK=>?_;(repeat rw [Qa];simp);refine hK _ _ _ ?_;clear hK K);(refine Qe ?_;(try simp only [zs]);refine Qk.ret rfl (.inl ?_);simp [zM]);rfl
 | false =>
  (refine sR fun K hK=>?_;(repeat rw [Qa];simp));refine Wm.pure Qf (Qc2 [decide (0<=t.n),decide (t.n<t.a),decide (t.ls= [])] (by simpa [Qzn, -Bool.and_eq_false_imp,Bool.and_assoc]using h)) ?_ (by simp [D.fgts,D.fgt,Ww,We]) (by simp [D.pures,D.pure,Cp.free,D.pures_map,Ww,We]) (by simp [Out.pure,D.pure,D.pures,Cp.free,D.pures_map,Ww,We]);(try simp only [zr]);(repeat rw [Qa];simp);((try simp only [zs]);refine Qk.pan (.inl ?_);simp [Out.fgt,D.fgt,D.fgts]);rfl
theorem Qnz(n sc:Int)(cs:List Int)(t:T):Sp 162 [Qb4 n sc cs,Qj t] [] (fun o _=>o.fgt=Xp (Qcw t) (.int .i64 (IntKind.i64.wrap (t.a+2)))):=by
 refine eN Tryz.func162 rfl (by decide) rfl rfl ?_;unfold Qb4 Qd3;(refine sR fun K hK=>?_;(repeat rw [Qa];simp);refine hK _ _ _ ?_;clear hK K);cases h:Qcw t with
 | true =>
  (refine sR fun K hK=>?_;(repeat rw [Qa];simp));refine Wm.pure Qf (Qc1 [decide (t.n=0),decide (0<=t.a),decide (t.ls= [])] (by simpa [Qcw,and_assoc]using h)) ?_ (by simp [D.fgts,D.fgt,Ww]) (by simp [D.pures,D.pure,Cp.free,D.pures_map,Ww]) (by simp [Out.pure,D.pure,D.pures,Cp.free,D.pures_map,Ww]);(try simp only [zr]);(repeat rw [Qa];simp);(refine hK _ _ _ ?_;clear hK K);(refine sR fun K hK=>?_;(repeat rw [Qa];simp);refine hK _ _ _ ?_;clear hK K);(refine Qe ?_;(try simp only [zs]);refine Qk.ret rfl (.inl ?_);simp [zM]);rfl
 | false =>
  (refine sR fun K hK=>?_;(repeat rw [Qa];simp));refine Wm.pure Qf (Qc2 [decide (t.n=0),decide (0<=t.a),decide (t.ls= [])] (by simpa [Qcw, -Bool.and_eq_false_imp,Bool.and_assoc]using h)) ?_ (by simp [D.fgts,D.fgt,Ww,We]) (by simp [D.pures,D.pure,Cp.free,D.pures_map,Ww,We]) (by simp [Out.pure,D.pure,D.pures,Cp.free,D.pures_map,Ww,We]);(try simp only [zr]);(repeat rw [Qa];simp);((try simp only [zs]);refine Qk.pan (.inl ?_);simp [Out.fgt,D.fgt,D.fgts]);rfl
theorem Qfh(n sc:Int)(ls:List LV)(hl:ls.length<=Ql)(hls:∀l,l∈ls ->l.length<=Ql):Sp 197 [Qb1 n sc,Lvs ls] [] (fun o _=>o.fgt=Xp (ls.all fun l=>Zc l n) (.tuple [])):=by
 obtain⟨R,hR⟩:∃R,R=ls.all fun l=>Zc l n:=⟨_,rfl⟩
 rw [<- hR];refine eN Tryz.func197 rfl (by decide) rfl rfl ?_;unfold Qb1 Lvs;(refine sR fun K hK=>?_;(repeat rw [Qa];simp);refine hK _ _ _ ?_;clear hK K);(refine sR fun K hK=>?_;(repeat rw [Qa];simp);refine hK _ _ _ ?_;clear hK K);refine Xm Wa Qf (ti:=3) (tk:=8) (tn:=7) (td:=9) (ts:=18) [5,8,9,10,11,12,13,14,15,16,17,18] [] (ls.length) (fun k ys hl=>ys= []/\R=((ls.drop k).all fun l=>Zc l n)/\hl= [.cells 150 [.int .i64 n, .int .i64 sc]]) rfl rfl rfl rfl rfl rfl rfl rfl rfl rfl rfl rfl (by simp) (by decide) rfl (by first | assumption | omega | (unfold Ql;omega)) rfl (by kernel_rfl) (by decide) ?_ ?_ ?_
 ·exact⟨rfl,hR,rfl⟩
 ·rintro i ys hl A hi ⟨rfl,hF,rfl⟩ hA hA2;simp only [Qh,List.set,List.map_cons,List.map_nil,List.cons_append,List.nil_append];have hi':(i:Int)<ls.length:=by omega
  rw [List.drop_eq_getElem_cons hi,List.all_cons]at hF;have hlr:=Qfl ls[i] n (hls _ (List.getElem_mem hi));obtain⟨x,hx⟩:∃x,ls[i]=x:=⟨_,rfl⟩;rw [hx]at hF hlr;unfold Qn at hlr;generalize Zc x n=B at hF hlr;(refine sR fun K hK=>?_;(repeat rw [Qa];simp [hi,hi',hx,Qn]);refine hK _ _ _ ?_;clear hK K);cases B with
  | true =>
   (refine Qi Wa ?_;(repeat rw [Qa];simp));refine cXr (hlr) ?_
   (repeat rw [Qa];simp)
   refine Wm.pure Qf (Qc1 [true] rfl) ?_ (by simp [D.fgts,D.fgt,Ww]) (by simp [D.pures,D.pure,Cp.free,D.pures_map,Ww]) (by simp [Out.pure,D.pure,D.pures,Cp.free,D.pures_map,Ww]);(try simp only [zr]);(repeat rw [Qa];simp);(refine hA2 ([0]) _ _ _ (LeT.refl _) (by decide) (by simp) (by simp [zM,Qh]) ?_ rfl;simp [zM]);simpa using hF
  | false =>
   (refine Qi Wa ?_;(repeat rw [Qa];simp));refine cXr (hlr) ?_
   (repeat rw [Qa];simp)
   refine Wm.pure Qf (Qc2 [false] rfl) ?_ (by simp [D.fgts,D.fgt,Ww,We]) (by simp [D.pures,D.pure,Cp.free,D.pures_map,Ww,We]) (by simp [Out.pure,D.pure,D.pures,Cp.free,D.pures_map,Ww,We]);(try simp only [zr]);(repeat rw [Qa];simp);((try simp only [zs]);refine Qk.pan (.inl ?_);simp [Out.fgt,D.fgt,D.fgts]);rw [hF];rfl
 ·rintro ys hl tl' ⟨rfl,hF,rfl⟩ htl;rw [List.drop_length]at hF;subst hF;((try simp only [zs]);refine Qk.nrm rfl (.inl ?_);simp [zM]);rfl
theorem Qg8(n sc:Int)(ls:List LV)(hl:ls.length<=Ql)(hls:∀l,l∈ls ->l.length<=Ql)(h:(ls.all fun l=>Zc l n)=true):Sp 197 [Qb1 n sc,Lvs ls] [] (rt (.tuple [])):=by
 have:=Qfh n sc ls hl hls;rw [h]at this;exact this
theorem Qg9(n sc:Int)(ls:List LV)(hl:ls.length<=Ql)(hls:∀l,l∈ls ->l.length<=Ql)(h:(ls.all fun l=>Zc l n)=false):Sp 197 [Qb1 n sc,Lvs ls] [] (fun o _=>o.fgt= .pan We):=by
 have:=Qfh n sc ls hl hls;rw [h]at this;exact this
theorem Qw4(n sc:Int)(cs:List Int)(t:T)(hl:t.ls.length<=Ql)(hls:∀l,l∈t.ls ->l.length<=Ql):Sp 152 [Qb4 n sc cs,Qj t] [] (fun o _=>o.fgt=Xp (Qqq n t) (.int .i64 0)):=by
 refine eN Tryz.func152 rfl (by decide) rfl rfl ?_;unfold Qb4 Qd3;(refine sR fun K hK=>?_;(repeat rw [Qa];simp);refine hK _ _ _ ?_;clear hK K);have e1:decide ((t.ls.length:Int)=1)=decide (t.ls.length=1):=by congr 1;exact propext (by omega)
 cases h:decide (t.n=0) && decide (t.a=0) && decide (t.ls.length=1)with
 | false =>
  (refine sR fun K hK=>?_;(repeat rw [Qa];simp [e1]));refine Wm.pure Qf (Qc2 [decide (t.n=0),decide (t.a=0),decide (t.ls.length=1)] (by simpa [-Bool.and_eq_false_imp,Bool.and_assoc]using h)) ?_ (by simp [D.fgts,D.fgt,Ww,We,e1]) (by simp [D.pures,D.pure,Cp.free,D.pures_map,Ww,We,e1]) (by simp [Out.pure,D.pure,D.pures,Cp.free,D.pures_map,Ww,We,e1]);(try simp only [zr]);(repeat rw [Qa];simp);((try simp only [zs]);refine Qk.pan (.inl ?_);simp [Out.fgt,D.fgt,D.fgts]);simp [Qqq,h,Xp,We];rfl
 | true =>
  (refine sR fun K hK=>?_;(repeat rw [Qa];simp [e1]));refine Wm.pure Qf (Qc1 [decide (t.n=0),decide (t.a=0),decide (t.ls.length=1)] (by simpa [and_assoc]using h)) ?_ (by simp [D.fgts,D.fgt,Ww,e1]) (by simp [D.pures,D.pure,Cp.free,D.pures_map,Ww,e1]) (by simp [Out.pure,D.pure,D.pures,Cp.free,D.pures_map,Ww,e1]);(try simp only [zr]);(repeat rw [Qa];simp);(refine hK _ _ _ ?_;clear hK K);cases h2:t.ls.all fun l=>Zc l n with
  | false =>
   (refine sR fun K hK=>?_;(repeat rw [Qa];simp));refine Wm.pure Qf (Qg9 n sc t.ls hl hls h2) ?_ (by simp [D.fgts,D.fgt,Qb1,Lvs,We]) (by simp [D.pures,D.pure,Cp.free,D.pures_map,Qb1,Lvs,We]) (by simp [Out.pure,D.pure,D.pures,Cp.free,D.pures_map,Qb1,Lvs,We]);(try simp only [zr]);(repeat rw [Qa];simp);((try simp only [zs]);refine Qk.pan (.inl ?_);simp [Out.fgt,D.fgt,D.fgts]);simp [Qqq,h,h2,Xp,We];rfl
  | true =>
   (refine sR fun K hK=>?_;(repeat rw [Qa];simp));refine Wm.pure Qf (Qg8 n sc t.ls hl hls h2) ?_ (by simp [D.fgts,D.fgt,Qb1,Lvs]) (by simp [D.pures,D.pure,Cp.free,D.pures_map,Qb1,Lvs]) (by simp [Out.pure,D.pure,D.pures,Cp.free,D.pures_map,Qb1,Lvs]);(try simp only [zr]);(repeat rw [Qa];simp);(refine hK _ _ _ ?_;clear hK K);(refine sR fun K hK=>?_;(repeat rw [Qa];simp);refine hK _ _ _ ?_;clear hK K);(refine Qe ?_;(try simp only [zs]);refine Qk.ret rfl (.inl ?_);simp [zM]);simp only [Qqq,h,h2];rfl
theorem Qnx(n sc:Int)(cs:List Int)(t:T)(hcs:cs.length<=Ql)(hl:t.ls.length<=Ql)(hls:∀l,l∈t.ls ->l.length<=Ql):Sp 153 [Qb4 n sc cs,Qj t] [] (fun o _=>o.fgt=Xp (Qmc n cs t) (.int .i64 0)):=by
 refine eN Tryz.func153 rfl (by decide) rfl rfl ?_;unfold Qb4 Qd3;(refine sR fun K hK=>?_;(repeat rw [Qa];simp);refine hK _ _ _ ?_;clear hK K);cases h:decide (0<=t.n) && decide (t.n<cs.length) && decide (t.a=0)with
 | false =>
  (refine sR fun K hK=>?_;(repeat rw [Qa];simp));refine Wm.pure Qf (Qc2 [decide (0<=t.n),decide (t.n<cs.length),decide (t.a=0)] (by simpa [-Bool.and_eq_false_imp,Bool.and_assoc]using h)) ?_ (by simp [D.fgts,D.fgt,Ww,We]) (by simp [D.pures,D.pure,Cp.free,D.pures_map,Ww,We]) (by simp [Out.pure,D.pure,D.pures,Cp.free,D.pures_map,Ww,We]);(try simp only [zr]);(repeat rw [Qa];simp);((try simp only [zs]);refine Qk.pan (.inl ?_);simp [Out.fgt,D.fgt,D.fgts]);simp [Qmc,h,Xp,We];rfl
 | true =>
  (refine sR fun K hK=>?_;(repeat rw [Qa];simp));refine Wm.pure Qf (Qc1 [decide (0<=t.n),decide (t.n<cs.length),decide (t.a=0)] (by simpa [and_assoc]using h)) ?_ (by simp [D.fgts,D.fgt,Ww]) (by simp [D.pures,D.pure,Cp.free,D.pures_map,Ww]) (by simp [Out.pure,D.pure,D.pures,Cp.free,D.pures_map,Ww]);(try simp only [zr]);(repeat rw [Qa];simp);(refine hK _ _ _ ?_;clear hK K);have h0:=h;simp only [Bool.and_eq_true,decide_eq_true_eq]at h0;obtain⟨⟨k1,k2⟩,k3⟩:=h0;have k4:t.n.toNat<cs.length:=by omega
  have k5:cs.getD t.n.toNat 0=cs[t.n.toNat]:=by rw [List.getD_eq_getElem?_getD,List.getElem?_eq_getElem k4];rfl
  cases h1:decide ((t.ls.length:Int)=cs[t.n.toNat])with
  | false =>
   (refine Qc fun K hK=>?_;refine dR fun KT hKT=>?_;(repeat rw [Qd];simp [k1,k4]));refine Xt.pure Qf (Qc2 [decide ((t.ls.length:Int)=cs[t.n.toNat])] (by simp [h1])) ?_ (by simp [D.fgts,D.fgt,Ww,We]) (by simp [D.pures,D.pure,Cp.free,D.pures_map,Ww,We]) (by simp [Out.pure,D.pure,D.pures,Cp.free,D.pures_map,Ww,We]);(try simp only [zq]);(repeat rw [Qd];simp);(refine hKT _ _ _ _ (by kernel_rfl) ?_;clear hKT KT);simp;((try simp only [zs]);refine Qk.pan (.inl ?_);simp [Out.fgt,D.fgt,D.fgts]);simp only [Qmc,h,k5,h1];rfl
  | true =>
   (refine Qc fun K hK=>?_;refine dR fun KT hKT=>?_;(repeat rw [Qd];simp [k1,k4]));refine Xt.pure Qf (Qc1 [decide ((t.ls.length:Int)=cs[t.n.toNat])] (by simp [h1])) ?_ (by simp [D.fgts,D.fgt,Ww]) (by simp [D.pures,D.pure,Cp.free,D.pures_map,Ww]) (by simp [Out.pure,D.pure,D.pures,Cp.free,D.pures_map,Ww]);(try simp only [zq]);(repeat rw [Qd];simp);(refine hKT _ _ _ _ (by kernel_rfl) ?_;clear hKT KT);(refine hK _ _ _ ?_;clear hK K);cases h2:t.ls.all fun l=>Zc l n with
   | false =>
    (refine sR fun K hK=>?_;(repeat rw [Qa];simp));refine Wm.pure Qf (Qg9 n sc t.ls hl hls h2) ?_ (by simp [D.fgts,D.fgt,Qb1,Lvs,We]) (by simp [D.pures,D.pure,Cp.free,D.pures_map,Qb1,Lvs,We]) (by simp [Out.pure,D.pure,D.pures,Cp.free,D.pures_map,Qb1,Lvs,We]);(try simp only [zr]);(repeat rw [Qa];simp);((try simp only [zs]);refine Qk.pan (.inl ?_);simp [Out.fgt,D.fgt,D.fgts]);simp only [Qmc,h,k5,h1,h2];rfl
   | true =>
    (refine sR fun K hK=>?_;(repeat rw [Qa];simp));refine Wm.pure Qf (Qg8 n sc t.ls hl hls h2) ?_ (by simp [D.fgts,D.fgt,Qb1,Lvs]) (by simp [D.pures,D.pure,Cp.free,D.pures_map,Qb1,Lvs]) (by simp [Out.pure,D.pure,D.pures,Cp.free,D.pures_map,Qb1,Lvs]);(try simp only [zr]);(repeat rw [Qa];simp);(refine hK _ _ _ ?_;clear hK K);(refine sR fun K hK=>?_;(repeat rw [Qa];simp);refine hK _ _ _ ?_;clear hK K);(refine Qe ?_;(try simp only [zs]);refine Qk.ret rfl (.inl ?_);simp [zM]);simp only [Qmc,h,k5,h1,h2];rfl
theorem Qvj:Sp 105 [] [] (fun o _=>o.fgt= .ret Qav):=by
 refine eN Tryz.func105 rfl (by decide) rfl rfl ?_;(refine sR fun K hK=>?_;(repeat rw [Qa];simp);refine hK _ _ _ ?_;clear hK K);(refine sR fun K hK=>?_;(repeat rw [Qa];simp);refine hK _ _ _ ?_;clear hK K);refine Qwh 0 (es:=Qe5.map fun p=>(.int .i64 p.1, .fn (.func p.2) [] [])) rfl ?_;simp [D.frzs,D.frz,HO.frz,Qaj];(refine Qe ?_;(try simp only [zs]);refine Qk.ret rfl (.inl ?_);simp [zM]);rfl
def Qgt(k:Int):Option FuncId:=(Qe5.find? fun p=>decide (k=p.1)).map (·.2)
theorem Qvd:∀j:Fin 25,(Qgt (j.1:Int)).isSome=Qho (j.1:Int):=by decide
theorem look_in(k:Int):(Qgt k).isSome=Qho k:=by
 by_cases h:0<=k/\k<25
 ·obtain⟨j,rfl⟩:∃j:Nat,k=j:=⟨k.toNat,by omega⟩;exact Qvd ⟨j,by omega⟩
 ·have h1:Qho k=false:=by unfold Qho;simp;omega
  rw [h1];unfold Qgt;rw [Option.isSome_map,Option.isSome_eq_false_iff,Option.isNone_iff_eq_none,List.find?_eq_none];intro p hp;simp only [Qe5,List.mem_cons,List.not_mem_nil,or_false]at hp;rcases hp with rfl | rfl | rfl | rfl | rfl | rfl | rfl | rfl | rfl | rfl | rfl | rfl | rfl | rfl | rfl | rfl | rfl | rfl | rfl | rfl <;> simp <;> omega
theorem Wdl(n sc:Int)(cs:List Int)(t:T)(hcs:cs.length<=Ql)(ht:okT t)(f:FuncId)(hf:Qgt t.k=some f) :
  Sp f [Qb4 n sc cs,Qj t] [] (fun o _=>o.fgt=Xp (Qn0 n sc cs t) (.int .i64 (Qwa t.k t.a))):=by
 have hl:=ht.ll;have hls:∀l,l∈t.ls ->l.length<=Ql:=fun l h=>(ht.ls l h).1
 have key:(t.k,f)∈Qe5:=by
  unfold Qgt at hf;cases h:Qe5.find? (fun p=>decide (t.k=p.1))with
  | none=>rw [h]at hf;cases hf
  | some p =>
   rw [h]at hf;cases hf;have h1:=List.find?_some h;have h2:=List.mem_of_find?_eq_some h;simp only [decide_eq_true_eq]at h1;rw [h1];exact h2
 simp only [Qe5,List.mem_cons,Prod.mk.injEq,List.not_mem_nil,or_false]at key;rcases key with ⟨h,rfl⟩ | ⟨h,rfl⟩ | ⟨h,rfl⟩ | ⟨h,rfl⟩ | ⟨h,rfl⟩ | ⟨h,rfl⟩ | ⟨h,rfl⟩ | ⟨h,rfl⟩ | ⟨h,rfl⟩ | ⟨h,rfl⟩ | ⟨h,rfl⟩ | ⟨h,rfl⟩ | ⟨h,rfl⟩ | ⟨h,rfl⟩ | ⟨h,rfl⟩ | ⟨h,rfl⟩ | ⟨h,rfl⟩ | ⟨h,rfl⟩ | ⟨h,rfl⟩ | ⟨h,rfl⟩ <;> simp only [Qn0,Qwa,h] <;> simp
 ·exact Qml n sc cs t
 ·exact Qw4 n sc cs t hl hls
 ·exact Qnx n sc cs t hcs hl hls
 all_goals first | exact Wa3 n sc cs t | exact Quj n sc cs t | exact Wb1 n sc cs t | exact Qzb n sc cs t | exact Qym n sc cs t | exact Wbh n sc cs t | exact Wcz n sc cs t | exact Qzm n sc cs t | exact Qnz n sc cs t
theorem Qt1:Qd1.length=Qdz.length:=by kernel_rfl
theorem Qt3:((Qd1.zip Qdz).all fun p=>Qbm IntKind.i64 p.1)=true:=by kernel_rfl
theorem Qtq(a:Int):∀l:List (Int×FuncId),Qca (.int .i64 a) ((l.map fun p=>(.int .i64 p.1:D)).zip (l.map fun p=>(.fn (.func p.2) [] []:D)))=((l.find? fun p=>decide (a=p.1)).map (·.2)).map fun f=> .fn (.func f) [] []
 | []=>rfl
 | p::r=>by
  rw [List.map_cons,List.map_cons,List.zip_cons_cons,Qca,List.find?_cons];by_cases h:a=p.1
  ·simp [Qdr,h]
  ·simp [Qdr,h];simpa using Qtq a r
theorem Qpx(a:Int):Qca (.int .i64 a) (Qd1.zip Qdz)=(Qgt a).map fun f=> .fn (.func f) [] []:=Qtq a Qe5
def ksC(n:Int)(cs:List Int)(k sc:Int)(ks:List T)(j:Nat):Bool:=Qiy n cs (ks.drop j) k j sc
theorem ksC_at{n:Int}{cs:List Int}{k sc:Int}{ks:List T}{j:Nat}(h:j<ks.length):ksC n cs k sc ks j=(Qcf n cs ks[j] (Xl sc k j) && ksC n cs k sc ks (j+1)):=by
 unfold ksC;rw [List.drop_eq_getElem_cons h,Qiy]
theorem ksC_end{n:Int}{cs:List Int}{k sc:Int}{ks:List T}:ksC n cs k sc ks ks.length=true:=by
 unfold ksC;rw [List.drop_length,Qiy]
theorem Qv0(n:Int)(cs:List Int)(hcs:cs.length<=Ql)(t:T):∀sc,okT t ->Sp 106 [Qb4 n sc cs,Qj t] [] (fun o _=>o.fgt=Xp (Qcf n cs t sc) (.tuple [])):=by
 induction t using T.ind with
 | h kk m a ls ks ih =>
  intro sc ht;have hkl:ks.length<=Ql:=ht.kl;have hks:=ht.ks;simp only [T.ks_mk]at hks;have ha0:=fun f hf=>Wdl n sc cs _ hcs ht f hf
  simp only [T.k_mk,T.a_mk]at ha0;have hC:Qcf n cs (.mk kk m a ls ks) sc=(Qho kk && Qn0 n sc cs (.mk kk m a ls ks) && decide ((ks.length:Int)=Qwa kk a) && ksC n cs kk sc ks 0):=by
   rw [Qcf];rfl
  generalize Qcf n cs (.mk kk m a ls ks) sc=R at hC⊢;generalize Qn0 n sc cs (.mk kk m a ls ks)=B at hC ha0;generalize Qwa kk a=q at hC ha0;have hin:=look_in kk;generalize Qho kk=I at hin hC;rw [Qb]at ha0⊢;simp only [T.k_mk,T.n_mk,T.a_mk,T.ls_mk,T.ks_mk]at ha0⊢;unfold Qb4 Qd3 at ha0⊢;refine eN Tryz.func106 rfl (by decide) rfl rfl ?_;(refine sR fun K hK=>?_;(repeat rw [Qa];simp);refine hK _ _ _ ?_;clear hK K);cases hf:Qgt kk with
  | none =>
   rw [hf]at hin;have hI:I=false:=hin.symm;subst hI;(refine sR fun K hK=>?_;(repeat rw [Qa];simp [Qav,Qt1,Qt3,Qpx,hf]);refine hK _ _ _ ?_;clear hK K);(refine sR fun K hK=>?_;(repeat rw [Qa];simp));refine Wm.pure Qf (Qc2 [false] rfl) ?_ (by simp [D.fgts,D.fgt,Ww,We]) (by simp [D.pures,D.pure,Cp.free,D.pures_map,Ww,We]) (by simp [Out.pure,D.pure,D.pures,Cp.free,D.pures_map,Ww,We]);(try simp only [zr]);(repeat rw [Qa];simp);((try simp only [zs]);refine Qk.pan (.inl ?_);simp [Out.fgt,D.fgt,D.fgts]);rw [hC];simp [Xp,We,D.fgt,D.fgts]
  | some f =>
   rw [hf]at hin;have hI:I=true:=hin.symm;subst hI;have ha:=ha0 f hf;clear ha0;(refine sR fun K hK=>?_;(repeat rw [Qa];simp [Qav,Qt1,Qt3,Qpx,hf]);refine hK _ _ _ ?_;clear hK K);(refine sR fun K hK=>?_;(repeat rw [Qa];simp));refine Wm.pure Qf (Qc1 [true] rfl) ?_ (by simp [D.fgts,D.fgt,Ww]) (by simp [D.pures,D.pure,Cp.free,D.pures_map,Ww]) (by simp [Out.pure,D.pure,D.pures,Cp.free,D.pures_map,Ww]);(try simp only [zr]);(repeat rw [Qa];simp);(refine hK _ _ _ ?_;clear hK K);cases B with
   | false =>
    simp only [Xp,if_false,Bool.false_eq_true]at ha;(refine Qc fun K hK=>?_;refine dR fun KT hKT=>?_;(repeat rw [Qd];simp));refine Xt.pure Qf ha ?_ (by simp [D.fgts,D.fgt,Qav]) (by simp [D.pures,D.pure,Cp.free,D.pures_map]) (by simp [Out.pure,D.pure,D.pures,We]);(try simp only [Qt,Qu,Qr,Qw,Wi]);((try simp only [Qt,Qu,Qr,Qw,Wi]);(repeat(refine Wr _ _ _ _ (by kernel_rfl) ?_;simp only [Qr,List.set,List.nil_append,List.cons_append,Nat.reduceAdd]));(try simp only [Qm]));(refine hKT _ _ _ _ (by kernel_rfl) ?_;clear hKT KT);simp;((try simp only [zs]);refine Qk.pan (.inl ?_);simp [Out.fgt,D.fgt,D.fgts]);rw [hC];simp [Xp,We,D.fgt,D.fgts]
   | true =>
    simp only [Xp,if_true]at ha;cases hm:decide ((ks.length:Int)=q)with
    | false =>
     (refine Qc fun K hK=>?_;refine dR fun KT hKT=>?_;(repeat rw [Qd];simp));refine Xt.pure Qf ha ?_ (by simp [D.fgts,D.fgt,Qav]) (by simp [D.pures,D.pure,Cp.free,D.pures_map]) (by simp [Out.pure,D.pure,D.pures]);(try simp only [zq]);(repeat rw [Qd];simp);refine Xt.pure Qf (Qc2 [decide ((ks.length:Int)=q)] (by simp [hm])) ?_ (by simp [D.fgts,D.fgt,Ww,We]) (by simp [D.pures,D.pure,Cp.free,D.pures_map,Ww,We]) (by simp [Out.pure,D.pure,D.pures,Cp.free,D.pures_map,Ww,We]);((try simp only [Qt,Qu,Qr,Qw,Wi]);(repeat(refine Wr _ _ _ _ (by kernel_rfl) ?_;simp only [Qr,List.set,List.nil_append,List.cons_append,Nat.reduceAdd]));(try simp only [Qm]));(refine hKT _ _ _ _ (by kernel_rfl) ?_;clear hKT KT);simp;((try simp only [zs]);refine Qk.pan (.inl ?_);simp [Out.fgt,D.fgt,D.fgts]);rw [hC,hm];simp [Xp,We,D.fgt,D.fgts]
    | true =>
     rw [hm]at hC;simp only [Bool.true_and]at hC;(refine Qc fun K hK=>?_;refine dR fun KT hKT=>?_;(repeat rw [Qd];simp));refine Xt.pure Qf ha ?_ (by simp [D.fgts,D.fgt,Qav]) (by simp [D.pures,D.pure,Cp.free,D.pures_map]) (by simp [Out.pure,D.pure,D.pures]);(try simp only [zq]);(repeat rw [Qd];simp);refine Xt.pure Qf (Qc1 [decide ((ks.length:Int)=q)] (by simp [hm])) ?_ (by simp [D.fgts,D.fgt,Ww]) (by simp [D.pures,D.pure,Cp.free,D.pures_map,Ww]) (by simp [Out.pure,D.pure,D.pures,Cp.free,D.pures_map,Ww]);(try simp only [zq]);(repeat rw [Qd];simp);(refine hKT _ _ _ _ (by kernel_rfl) ?_;clear hKT KT);(refine hK _ _ _ ?_;clear hK K);clear ha hm;(refine sR fun K hK=>?_;(repeat rw [Qa];simp);refine hK _ _ _ ?_;clear hK K);refine Xm Wa Qf (ti:=3) (tk:=33) (tn:=32) (td:=34) (ts:=50) [6,7,8,33,34,35,36,37,38,39,40,41,42,43,44,45,46,47,48,49,50] [] (ks.length) (fun k ys hl=>ys= []/\R=ksC n cs kk sc ks k/\hl= [.cells 154 [.int .i64 n, .int .i64 sc, .slice (cs.map (.int .i64)) .any,Qav], .cells 27 [.int .i64 kk, .int .i64 m, .int .i64 a, .slice (ls.map Qn) .any, .slice (ks.map Qj) .any]]) rfl rfl rfl rfl rfl rfl rfl rfl rfl rfl rfl rfl (by simp) (by decide) rfl (by first | assumption | omega | (unfold Ql;omega)) rfl (by kernel_rfl) (by decide) ?_ ?_ ?_
     ·exact⟨rfl,hC,rfl⟩
     ·rintro i ys hl A hi ⟨rfl,hF,rfl⟩ hA hA2;simp only [Qh,List.set,List.map_cons,List.map_nil,List.cons_append,List.nil_append];have hi':(i:Int)<ks.length:=by omega
      rw [ksC_at hi]at hF;have hrec:=ih ks[i] (List.getElem_mem hi) (Xl sc kk i) (hks _ (List.getElem_mem hi));have hbi:=Qgc kk i;have hbl:=Qqy n sc 1;have hbd:Xl sc kk i=if Qa7 kk i then IntKind.i64.wrap (sc+1)else sc:=rfl
      unfold Qb4 Qd3 at hrec;unfold Qb1 at hbl;obtain⟨x,hx⟩:∃x,ks[i]=x:=⟨_,rfl⟩;have hEx:=Qb x;rw [hx]at hrec hF;rw [hEx]at hrec;generalize Qcf n cs x (Xl sc kk i)=Bx at hrec hF;generalize Xl sc kk i=sc' at hrec hbd;generalize Qa7 kk i=bb at hbi hbd;(refine sR fun K hK=>?_;(repeat rw [Qa];simp [hi,hi',hx,hEx]);refine hK _ _ _ ?_;clear hK K);(refine sR fun K hK=>?_;(repeat rw [Qa];simp);refine hK _ _ _ ?_;clear hK K);refine Qc fun K2 hK2=>?_
      cases bb with
      | true =>
       rw [if_pos rfl]at hbd;subst hbd;(refine sR fun K hK=>?_;(repeat rw [Qa];simp));refine cXr (hbi) ?_
       (repeat rw [Qa];simp)
       (refine hK _ _ _ ?_;clear hK K);refine pT rfl ?_;(refine Qi Wa ?_;(repeat rw [Qa];simp));refine cXr (hbl) ?_
       (repeat rw [Qa];simp)
       refine hK2 _ _ _ ?_;cases Bx with
       | true =>
        simp only [Xp,if_true]at hrec;(refine Qi Wa ?_;(repeat rw [Qa];simp));refine cXr (hrec) ?_
        (repeat rw [Qa];simp)
        (refine hA2 ([0,1]) _ _ _ (LeT.refl _) (by decide) (by simp) (by simp [zM,Qh]) ?_ rfl;simp [zM]);simpa using hF
       | false =>
        simp only [Xp,if_false,Bool.false_eq_true]at hrec;(refine Qi Wa ?_;(repeat rw [Qa];simp));refine Wm.pure Qf (hrec) ?_ (by simp [D.fgts,D.fgt,We]) (by simp [D.pures,D.pure,Cp.free,D.pures_map,We]) (by simp [Out.pure,D.pure,D.pures,Cp.free,D.pures_map,We]);(try simp only [zr]);(repeat rw [Qa];simp);((try simp only [zs]);refine Qk.pan (.inl ?_);simp [Out.fgt,D.fgt,D.fgts]);rw [hF];simp [Xp,We,D.fgt,D.fgts]
      | false =>
       rw [if_neg Bool.false_ne_true]at hbd;subst hbd;(refine sR fun K hK=>?_;(repeat rw [Qa];simp));refine cXr (hbi) ?_
       (repeat rw [Qa];simp)
       (refine hK _ _ _ ?_;clear hK K);refine pF rfl ?_;refine Qg (hK2 _ _ _ ?_);cases Bx with
       | true =>
        simp only [Xp,if_true]at hrec;(refine Qi Wa ?_;(repeat rw [Qa];simp));refine cXr (hrec) ?_
        (repeat rw [Qa];simp)
        (refine hA2 ([0,1]) _ _ _ (LeT.refl _) (by decide) (by simp) (by simp [zM,Qh]) ?_ rfl;simp [zM]);simpa using hF
       | false =>
        simp only [Xp,if_false,Bool.false_eq_true]at hrec;(refine Qi Wa ?_;(repeat rw [Qa];simp));refine Wm.pure Qf (hrec) ?_ (by simp [D.fgts,D.fgt,We]) (by simp [D.pures,D.pure,Cp.free,D.pures_map,We]) (by simp [Out.pure,D.pure,D.pures,Cp.free,D.pures_map,We]);(try simp only [zr]);(repeat rw [Qa];simp);((try simp only [zs]);refine Qk.pan (.inl ?_);simp [Out.fgt,D.fgt,D.fgts]);rw [hF];simp [Xp,We,D.fgt,D.fgts]
     ·rintro ys hl tl' ⟨rfl,hF,rfl⟩ htl;rw [ksC_end]at hF;subst hF;((try simp only [zs]);refine Qk.nrm rfl (.inl ?_);simp [zM]);simp [Xp]
theorem Qr6(b:Bool):Qge Tryz.prog glob 103 [.box 0 0] [.cells 4 [.bool b]] none (fun hc=>hc= [.cells 4 [.bool b]]):=by
 refine Qaq Wa Tryz.func103 rfl rfl (fun a w=>rfl) rfl (Qch _ _ Tryz.func103 rfl (by decide)) rfl rfl ?_;(try simp only [zr]);(repeat rw [Qa];simp);(refine sR fun K hK=>?_;(repeat rw [Qa];simp);refine hK _ _ _ ?_;clear hK K);refine pF rfl ?_;refine Qg ?_;refine Qk.nrm rfl ?_;simp [Qw]
theorem Qi0(b:Bool):Qge Tryz.prog glob 103 [.box 0 0] [.cells 4 [.bool b]] (some We) (fun hc=>hc= [.cells 4 [.bool false], .cells 146 []]):=by
 refine Qaq Wa Tryz.func103 rfl rfl (fun a w=>rfl) rfl (Qch _ _ Tryz.func103 rfl (by decide)) rfl rfl ?_;unfold We;(try simp only [zr]);(repeat rw [Qa];simp);(refine sR fun K hK=>?_;(repeat rw [Qa];simp);refine hK _ _ _ ?_;clear hK K);refine pT rfl ?_;refine Qc fun K1 hK1=>?_
 (refine sR fun K hK=>?_;(repeat rw [Qa];simp);refine hK _ _ _ ?_;clear hK K);(refine sR fun K hK=>?_;(repeat rw [Qa];simp);refine hK _ _ _ ?_;clear hK K);refine pF rfl ?_;refine Qg (hK1 _ _ _ ?_);(refine Qi Wa ?_;(repeat rw [Qa];simp));refine Qk.nrm rfl ?_;simp
theorem Qcp(n sc:Int)(cs:List Int)(t:T)(hcs:cs.length<=Ql)(ht:okT t):Sp 52 [.int .i64 n, .int .i64 sc,Qd3 cs,Qj t] [] (rt (.bool (Xu n sc cs t))):=by
 have hw:=Qv0 n cs hcs t sc ht;have hR:Xu n sc cs t=(decide (0<=n) && decide (0<=sc) && Qcf n cs t sc):=rfl;generalize Xu n sc cs t=R at hR⊢;generalize Qcf n cs t sc=B at hR hw;unfold Qb4 at hw;rw [Qb t]at hw⊢;unfold Qd3 at hw⊢;have hk:=Qvj;refine eD Tryz.func52 rfl (by decide) rfl rfl ?_;(refine sR fun K hK=>?_;(repeat rw [Qa];simp);refine hK _ _ _ ?_;clear hK K);(refine sR fun K hK=>?_;(repeat rw [Qa];simp);refine hK _ _ _ ?_;clear hK K);cases hm:decide (0<=n) && decide (0<=sc)with
 | false =>
  rw [hm,Bool.false_and]at hR;subst hR;(refine sR fun K hK=>?_;(repeat rw [Qa];simp));refine Wm.pure Qf (Qc2 [decide (0<=n),decide (0<=sc)] (by simpa [-Bool.and_eq_false_imp]using hm)) ?_ (by simp [D.fgts,D.fgt,Ww,We]) (by simp [D.pures,D.pure,Cp.free,D.pures_map,Ww,We]) (by simp [Out.pure,D.pure,D.pures,Cp.free,D.pures_map,Ww,We]);(try simp only [zr]);(repeat rw [Qa];simp);(try simp only [zs]);refine Qfb.objs Qf [1] (Qi0 false) ?_ ?_ (fun d h=>by cases h;rfl) (by decide) (by simp) (by simp [zA]) (by simp [zA]) (by simp [zA]) (by simp [zA,We])
  ·rintro hc rfl;simp [zA,upO,Qw,Wi];refine Qen.intro rfl (.inr ⟨[],by decide,by simp,?_⟩);simp [zM,Out.fgt,D.fgt]
  ·rintro hc rfl;simp
 | true =>
  rw [hm,Bool.true_and]at hR;subst hR;(refine sR fun K hK=>?_;(repeat rw [Qa];simp));refine Wm.pure Qf (Qc1 [decide (0<=n),decide (0<=sc)] (by simpa using hm)) ?_ (by simp [D.fgts,D.fgt,Ww]) (by simp [D.pures,D.pure,Cp.free,D.pures_map,Ww]) (by simp [Out.pure,D.pure,D.pures,Cp.free,D.pures_map,Ww]);(try simp only [zr]);(repeat rw [Qa];simp);(refine hK _ _ _ ?_;clear hK K);cases R with
  | true =>
   simp only [Xp,if_true]at hw;(refine Qc fun K hK=>?_;refine dR fun KT hKT=>?_;(repeat rw [Qd];simp));refine cYp (hk) ?_;(try simp only [zq]);(repeat rw [Qd];simp);refine cYp (hw) ?_;(try simp only [zq]);(repeat rw [Qd];simp);(refine hKT _ _ _ _ (by kernel_rfl) ?_;clear hKT KT);(refine hK _ _ _ ?_;clear hK K);(refine sR fun K hK=>?_;(repeat rw [Qa];simp);refine hK _ _ _ ?_;clear hK K);refine Qe ?_;refine Qfb.objs Qf [1] (Qr6 true) ?_ ?_ (fun d h=>by cases h) (by decide) (by simp) (by simp [zA]) (by simp [zA]) (by simp [zA]) (by simp [zA])
   ·rintro hc rfl;simp [zA,upO,Qw,Wi];refine Qen.intro rfl (.inr ⟨[],by decide,by simp,?_⟩);simp [zM,Out.fgt,D.fgt]
   ·rintro hc rfl;simp
  | false =>
   simp only [Xp,if_false,Bool.false_eq_true]at hw;(refine Qc fun K hK=>?_;refine dR fun KT hKT=>?_;(repeat rw [Qd];simp));refine cYp (hk) ?_;(try simp only [zq]);(repeat rw [Qd];simp);refine Xt.pure Qf (hw) ?_ (by simp [D.fgts,D.fgt,We]) (by simp [D.pures,D.pure,Cp.free,D.pures_map,We]) (by simp [Out.pure,D.pure,D.pures,Cp.free,D.pures_map,We]);((try simp only [Qt,Qu,Qr,Qw,Wi]);(repeat(refine Wr _ _ _ _ (by kernel_rfl) ?_;simp only [Qr,List.set,List.nil_append,List.cons_append,Nat.reduceAdd]));(try simp only [Qm]));(refine hKT _ _ _ _ (by kernel_rfl) ?_;clear hKT KT);simp;refine Qfb.objs Qf [1] (Qi0 false) ?_ ?_ (fun d h=>by cases h;rfl) (by decide) (by simp [Xi]) (by simp [zA,Xi]) (by simp [zA,Xi]) (by simp [zA]) (by simp [zA,We])
   ·rintro hc rfl;simp [zA,upO,Qw,Wi,Xi,Qkb];refine Qen.intro rfl (.inr ⟨[],by decide,by simp,?_⟩);simp [zM,Out.fgt,D.fgt]
   ·rintro hc rfl;simp
theorem Qld(p:LV ->LV ->Bool)(l m:List (LV))(hl:l.length<=Ql)(hm:m.length<=Ql)(hg:∀x y,x∈l ->y∈m ->Sp 35 [Qn x,Qn y] [] (rt (.bool (p x y)))) :
  Sp 45 [.slice (l.map Qn) .any, .slice (m.map Qn) .any] [] (rt (.bool (Qa0 p l m))):=by
 obtain⟨R,hR⟩:∃R,R=Qa0 p l m:=⟨_,rfl⟩;rw [<- hR];have hl0:=hl;unfold Ql at hl0;refine eN Tryz.func45 rfl (by decide) rfl rfl ?_;(refine sR fun K hK=>?_;(repeat rw [Qa];simp);refine hK _ _ _ ?_;clear hK K);refine Qc fun K1 hK1=>?_
 by_cases hlen:l.length=m.length
 ·have hlen':(l.length:Int)=m.length:=by omega
  (refine sR fun K hK=>?_;(repeat rw [Qa];simp [hlen,hlen']);refine hK _ _ _ ?_;clear hK K);refine pF rfl ?_;refine Qg (hK1 _ _ _ ?_);clear hK1 K1;refine Qc fun K1 hK1=>?_
  (refine sR fun K hK=>?_;(repeat rw [Qa];simp);refine hK _ _ _ ?_;clear hK K);refine Qy ?_;refine Qa8 [4,11,12,13,14,15,16,17,18,19,20,21,22,23,24,25,26] [5] (fun n ys hl=>∃(k:Nat),ys= [.int .i64 k]/\n+k=l.length/\R=Qa0 p (l.drop k) (m.drop k)/\hl= []) (l.length) (by kernel_rfl) ?_ ?_
  ·exact⟨0,rfl,rfl,hR,rfl⟩
  ·rintro n ys hl A hA ⟨i,rfl,hn,hF,rfl⟩;simp only [Qh,List.set,List.map_cons,List.map_nil,List.cons_append,List.nil_append];refine Qc fun K2 hK2=>?_
   by_cases hi:i<l.length
   ·have hi2:i<m.length:=by omega
    have hi':(i:Int)<l.length:=by omega
    have hi2':(i:Int)<m.length:=by omega
    (refine sR fun K hK=>?_;(repeat rw [Qa];simp [hi,hi']);refine hK _ _ _ ?_;clear hK K);refine pT rfl ?_;refine Qg (hK2 _ _ _ ?_);clear hK2 K2;refine Qc fun K3 hK3=>?_
    refine Qy ?_;rw [Qei hi hi2]at hF;have hrec:=hg l[i] m[i] (List.getElem_mem hi) (List.getElem_mem hi2);obtain⟨x,hx⟩:∃x,l[i]=x:=⟨_,rfl⟩;obtain⟨y,hy⟩:∃y,m[i]=y:=⟨_,rfl⟩;rw [hx,hy]at hrec hF;have hEx:Qn x= .agg [.slice (x.map Wv) .any]:=rfl;have hEy:Qn y= .agg [.slice (y.map Wv) .any]:=rfl;rw [hEx,hEy]at hrec;generalize p x y=B at hrec hF;(refine Qc fun K hK=>?_;refine dR fun KT hKT=>?_;(repeat rw [Qd];simp [hi,hi',hx,hi2,hi2',hy,hEx,hEy]));refine cYp (hrec) ?_;(try simp only [zq]);(repeat rw [Qd];simp);(refine hKT _ _ _ _ (by kernel_rfl) ?_;clear hKT KT);(refine hK _ _ _ ?_;clear hK K);cases B with
    | true =>
     refine pF rfl ?_;refine Qg (hK3 _ _ _ ?_);clear hK3 K3;have hw1:IntKind.i64.wrap ((i:Int)+1)=(i:Int)+1:=Qbp (by omega) (by omega);(refine Qi Wa ?_;(repeat rw [Qa];simp [hw1]));refine hA (n - 1) _ _ _ (LeT.refl _) (by omega) (by kernel_rfl) ?_;exact⟨i+1,rfl,by omega,by simpa using hF,rfl⟩
    | false =>
     refine pT rfl ?_;(refine sR fun K hK=>?_;(repeat rw [Qa];simp);refine hK _ _ _ ?_;clear hK K);(refine Qe ?_;(try simp only [zs]);refine Qk.ret rfl (.inl ?_);simp [zM]);simpa using hF
   ·have hi':¬ (i:Int)<l.length:=by omega
    (refine sR fun K hK=>?_;(repeat rw [Qa];simp [hi,hi']);refine hK _ _ _ ?_;clear hK K);refine pF rfl ?_;refine Qab ?_;refine hK1 _ _ _ ?_;rw [List.drop_of_length_le (by omega),List.drop_of_length_le (by omega)]at hF;have hF':R=true:=hF;subst hF';(refine sR fun K hK=>?_;(repeat rw [Qa];simp);refine hK _ _ _ ?_;clear hK K);(refine Qe ?_;(try simp only [zs]);refine Qk.ret rfl (.inl ?_);simp [zM])
 ·have hlen':¬ (l.length:Int)=m.length:=by omega
  (refine sR fun K hK=>?_;(repeat rw [Qa];simp [hlen,hlen']);refine hK _ _ _ ?_;clear hK K);refine pT rfl ?_;(refine sR fun K hK=>?_;(repeat rw [Qa];simp);refine hK _ _ _ ?_;clear hK K);(refine Qe ?_;(try simp only [zs]);refine Qk.ret rfl (.inl ?_);simp [zM]);rw [hR];exact Qeh hlen
theorem Qm2(p:T ->T ->Bool)(l m:List (T))(hl:l.length<=Ql)(hm:m.length<=Ql)(hg:∀x y,x∈l ->y∈m ->Sp 14 [Qj x,Qj y] [] (rt (.bool (p x y)))) :
  Sp 46 [.slice (l.map Qj) .any, .slice (m.map Qj) .any] [] (rt (.bool (Qa0 p l m))):=by
 obtain⟨R,hR⟩:∃R,R=Qa0 p l m:=⟨_,rfl⟩;rw [<- hR];have hl0:=hl;unfold Ql at hl0;refine eN Tryz.func46 rfl (by decide) rfl rfl ?_;(refine sR fun K hK=>?_;(repeat rw [Qa];simp);refine hK _ _ _ ?_;clear hK K);refine Qc fun K1 hK1=>?_
 by_cases hlen:l.length=m.length
 ·have hlen':(l.length:Int)=m.length:=by omega
  (refine sR fun K hK=>?_;(repeat rw [Qa];simp [hlen,hlen']);refine hK _ _ _ ?_;clear hK K);refine pF rfl ?_;refine Qg (hK1 _ _ _ ?_);clear hK1 K1;refine Qc fun K1 hK1=>?_
  (refine sR fun K hK=>?_;(repeat rw [Qa];simp);refine hK _ _ _ ?_;clear hK K);refine Qy ?_;refine Qa8 [4,11,12,13,14,15,16,17,18,19,20,21,22,23,24,25,26] [5] (fun n ys hl=>∃(k:Nat),ys= [.int .i64 k]/\n+k=l.length/\R=Qa0 p (l.drop k) (m.drop k)/\hl= []) (l.length) (by kernel_rfl) ?_ ?_
  ·exact⟨0,rfl,rfl,hR,rfl⟩
  ·rintro n ys hl A hA ⟨i,rfl,hn,hF,rfl⟩;simp only [Qh,List.set,List.map_cons,List.map_nil,List.cons_append,List.nil_append];refine Qc fun K2 hK2=>?_
   by_cases hi:i<l.length
   ·have hi2:i<m.length:=by omega
    have hi':(i:Int)<l.length:=by omega
    have hi2':(i:Int)<m.length:=by omega
    (refine sR fun K hK=>?_;(repeat rw [Qa];simp [hi,hi']);refine hK _ _ _ ?_;clear hK K);refine pT rfl ?_;refine Qg (hK2 _ _ _ ?_);clear hK2 K2;refine Qc fun K3 hK3=>?_
    refine Qy ?_;rw [Qei hi hi2]at hF;have hrec:=hg l[i] m[i] (List.getElem_mem hi) (List.getElem_mem hi2);obtain⟨x,hx⟩:∃x,l[i]=x:=⟨_,rfl⟩;obtain⟨y,hy⟩:∃y,m[i]=y:=⟨_,rfl⟩;rw [hx,hy]at hrec hF;have hEx:=Qb x;have hEy:=Qb y;rw [hEx,hEy]at hrec;generalize p x y=B at hrec hF;(refine Qc fun K hK=>?_;refine dR fun KT hKT=>?_;(repeat rw [Qd];simp [hi,hi',hx,hi2,hi2',hy,hEx,hEy]));refine cYp (hrec) ?_;(try simp only [zq]);(repeat rw [Qd];simp);(refine hKT _ _ _ _ (by kernel_rfl) ?_;clear hKT KT);(refine hK _ _ _ ?_;clear hK K);cases B with
    | true =>
     refine pF rfl ?_;refine Qg (hK3 _ _ _ ?_);clear hK3 K3;have hw1:IntKind.i64.wrap ((i:Int)+1)=(i:Int)+1:=Qbp (by omega) (by omega);(refine Qi Wa ?_;(repeat rw [Qa];simp [hw1]));refine hA (n - 1) _ _ _ (LeT.refl _) (by omega) (by kernel_rfl) ?_;exact⟨i+1,rfl,by omega,by simpa using hF,rfl⟩
    | false =>
     refine pT rfl ?_;(refine sR fun K hK=>?_;(repeat rw [Qa];simp);refine hK _ _ _ ?_;clear hK K);(refine Qe ?_;(try simp only [zs]);refine Qk.ret rfl (.inl ?_);simp [zM]);simpa using hF
   ·have hi':¬ (i:Int)<l.length:=by omega
    (refine sR fun K hK=>?_;(repeat rw [Qa];simp [hi,hi']);refine hK _ _ _ ?_;clear hK K);refine pF rfl ?_;refine Qab ?_;refine hK1 _ _ _ ?_;rw [List.drop_of_length_le (by omega),List.drop_of_length_le (by omega)]at hF;have hF':R=true:=hF;subst hF';(refine sR fun K hK=>?_;(repeat rw [Qa];simp);refine hK _ _ _ ?_;clear hK K);(refine Qe ?_;(try simp only [zs]);refine Qk.ret rfl (.inl ?_);simp [zM])
 ·have hlen':¬ (l.length:Int)=m.length:=by omega
  (refine sR fun K hK=>?_;(repeat rw [Qa];simp [hlen,hlen']);refine hK _ _ _ ?_;clear hK K);refine pT rfl ?_;(refine sR fun K hK=>?_;(repeat rw [Qa];simp);refine hK _ _ _ ?_;clear hK K);(refine Qe ?_;(try simp only [zs]);refine Qk.ret rfl (.inl ?_);simp [zM]);rw [hR];exact Qeh hlen
theorem Qtu{α:Type} [DecidableEq α]:∀l m:List α,Qa0 (fun x y=>decide (x=y)) l m=decide (l=m)
 | [], []=>by simp [Qa0]
 | [],_::_=>by simp [Qa0]
 | _::_, []=>by simp [Qa0]
 | a::r,b::s=>by rw [Qa0,Qtu r s];by_cases h:a=b <;> simp [h]
mutual
def T.eqB:T ->T ->Bool
 | .mk k n a ls ks, .mk k' n' a' ls' ks'=>decide (k=k') && decide (n=n') && decide (a=a') && decide (ls=ls') && T.eqsB ks ks'
def T.eqsB:List T ->List T ->Bool
 | [], []=>true
 | a::r,b::s=>T.eqB a b && T.eqsB r s
 | [],_::_=>false
 | _::_, []=>false
end
mutual
theorem T.eqB_iff:∀t u:T,T.eqB t u=true↔t=u
 | .mk k n a ls ks, .mk k' n' a' ls' ks'=>by rw [T.eqB];simp [T.eqsB_iff ks ks',and_assoc]
theorem T.eqsB_iff:∀l m:List T,T.eqsB l m=true↔l=m
 | [], []=>by rw [T.eqsB];simp
 | a::r,b::s=>by rw [T.eqsB];simp [T.eqB_iff a b,T.eqsB_iff r s]
 | [],_::_=>by rw [T.eqsB];simp
 | _::_, []=>by rw [T.eqsB];simp
end
theorem Qzc:∀l m:List T,T.eqsB l m=Qa0 T.eqB l m
 | [], []=>by rw [T.eqsB];rfl
 | a::r,b::s=>by rw [T.eqsB,Qzc r s];rfl
 | [],_::_=>by rw [T.eqsB];rfl
 | _::_, []=>by rw [T.eqsB];rfl
theorem Qjs(l m:List LV)(hl:l.length<=Ql)(hm:m.length<=Ql)(hls:∀x,x∈l ->x.length<=Ql)(hms:∀x,x∈m ->x.length<=Ql) :
  Sp 45 [.slice (l.map Qn) .any, .slice (m.map Qn) .any] [] (rt (.bool (decide (l=m)))):=by
 rw [<- Qtu];exact Qld _ l m hl hm fun x y hx hy=>Qle x y (hls x hx) (hms y hy)
theorem Qtt(t:T):∀u,okT t ->okT u ->Sp 14 [Qj t,Qj u] [] (rt (.bool (t.eqB u))):=by
 induction t using T.ind with
 | h k n a ls ks ih =>
  rintro⟨k',n',a',ls',ks'⟩ ht hu;have hls:=ht.ls;have hls':=hu.ls;have hks:=ht.ks;have hks':=hu.ks;simp only [T.ls_mk,T.ks_mk]at hls hls' hks hks';have hL:=Qjs ls ls' ht.ll hu.ll (fun x hx=>(hls x hx).1) (fun x hx=>(hls' x hx).1);have hT:=Qm2 T.eqB ks ks' ht.kl hu.kl (fun x y hx hy=>ih x hx y (hks x hx) (hks' y hy));have hF:(T.mk k n a ls ks).eqB (.mk k' n' a' ls' ks')=(decide (k=k') && decide (n=n') && decide (a=a') && decide (ls=ls') && T.eqsB ks ks'):=by rw [T.eqB]
  rw [hF,Qzc];generalize Qa0 T.eqB ks ks'=B2 at hT⊢;generalize decide (ls=ls')=B1 at hL⊢;clear hF ih hls hls' hks hks' ht hu;rw [Qb,Qb];simp only [T.k_mk,T.n_mk,T.a_mk,T.ls_mk,T.ks_mk];refine eN Tryz.func14 rfl (by decide) rfl rfl ?_;(refine sR fun K hK=>?_;(repeat rw [Qa];simp);refine hK _ _ _ ?_;clear hK K);by_cases h1:k=k'
  ·subst h1;by_cases h2:n=n'
   ·subst h2;by_cases h3:a=a'
    ·subst h3;cases B1 with
     | true =>
      (refine sR fun K hK=>?_;(repeat rw [Qa];simp));refine cXr (hL) ?_
      (repeat rw [Qa];simp)
      refine cXr (hT) ?_
      (repeat rw [Qa];simp)
      (refine hK _ _ _ ?_;clear hK K);(refine Qe ?_;(try simp only [zs]);refine Qk.ret rfl (.inl ?_);simp [zM])
     | false =>
      (refine sR fun K hK=>?_;(repeat rw [Qa];simp));refine cXr (hL) ?_
      (repeat rw [Qa];simp)
      (refine hK _ _ _ ?_;clear hK K);(refine Qe ?_;(try simp only [zs]);refine Qk.ret rfl (.inl ?_);simp [zM])
    ·(refine sR fun K hK=>?_;(repeat rw [Qa];simp [h3]);refine hK _ _ _ ?_;clear hK K);(refine Qe ?_;(try simp only [zs]);refine Qk.ret rfl (.inl ?_);simp [zM]);simp [h3]
   ·(refine sR fun K hK=>?_;(repeat rw [Qa];simp [h2]);refine hK _ _ _ ?_;clear hK K);(refine Qe ?_;(try simp only [zs]);refine Qk.ret rfl (.inl ?_);simp [zM]);simp [h2]
  ·(refine sR fun K hK=>?_;(repeat rw [Qa];simp [h1]);refine hK _ _ _ ?_;clear hK K);(refine Qe ?_;(try simp only [zs]);refine Qk.ret rfl (.inl ?_);simp [zM]);simp [h1]
def Wdv(n:Int):Bool:=decide (n<0) || decide (1048576<n)
def Wcc(k a:Int):Int:=if k=24 then IntKind.i64.wrap ((Qee k).2.2.2.1+a)else(Qee k).2.2.2.1
def Wcb(k:Int):Int:=if k=10 then 10 else 8
def nodeIn(k n a:Int):Bool:=decide (1<=k) && decide (k<=24) && !(Wdv n || Wdv a)
def nodeHas(k n a:Int)(ls:List LV)(len:Nat):Bool :=
 decide ((len:Int)=Wcc k a) && (decide (n=0) || (Qee k).1) && (decide (a=0) || (Qee k).2.1) && (decide ((Qee k).2.2.1<0) || decide ((ls.length:Int)=(Qee k).2.2.1)) && decide ((ls.length:Int)<=Wcb k)
def nodeT(t:T):Bool:=nodeIn t.k t.n t.a && nodeHas t.k t.n t.a t.ls t.ks.length && !(t.ls.any fun l=>!Zc l 9)
mutual
def T.cnt:T ->Int ->Int ->Bool×Int
 | .mk k n a ls ks,deep,c =>
  let c1:=IntKind.i64.wrap (c+1)
  if deep<=400/\c1<=20000/\nodeT (.mk k n a ls ks)=true then T.cnts ks (IntKind.i64.wrap (deep+1)) c1 else(false,c1)
def T.cnts:List T ->Int ->Int ->Bool×Int
 | [],_,c=>(true,c)
 | t::r,deep,c=>if(T.cnt t deep c).1=true then T.cnts r deep (T.cnt t deep c).2 else(false,(T.cnt t deep c).2)
end
def Qeo{α:Type}(step:α ->Int ->Int)(q:Int):List α ->Int ->Int
 | [],n=>n
 | x::r,n=>if n<=q then Qeo step q r (step x n)else n
def Qo4(q:Int)(l:LV):Int:=min (IntKind.i64.wrap (1+(l.length:Int))) (IntKind.i64.wrap (q+1))
theorem Qyg(l:LV)(q:Int):Sp 137 [Qn l, .int .i64 q] [] (rt (.int .i64 (Qo4 q l))):=by
 refine eN Tryz.func137 rfl (by decide) rfl rfl ?_;unfold Qn;(refine sR fun K hK=>?_;(repeat rw [Qa];simp);refine hK _ _ _ ?_;clear hK K);(refine sR fun K hK=>?_;(repeat rw [Qa];simp);refine hK _ _ _ ?_;clear hK K);(refine Qe ?_;(try simp only [zs]);refine Qk.ret rfl (.inl ?_);simp [zM]);rfl
theorem Qyd(l:List (LV))(q:Int)(step:LV ->Int ->Int)(hl:l.length<=Ql)(hst:∀x s,step x s=IntKind.i64.wrap (s+Qo4 q x))(hg:∀x,x∈l ->∀s:Int,Sp 137 [Qn x, .int .i64 q] [] (rt (.int .i64 (Qo4 q x)))) :
  Sp 85 [.slice (l.map Qn) .any, .int .i64 q] [] (rt (.int .i64 (Qeo step q l 0))):=by
 obtain⟨R,hR⟩:∃R,R=Qeo step q l 0:=⟨_,rfl⟩;rw [<- hR];have hl0:=hl;unfold Ql at hl0;refine eN Tryz.func85 rfl (by decide) rfl rfl ?_;(refine sR fun K hK=>?_;(repeat rw [Qa];simp);refine hK _ _ _ ?_;clear hK K);(refine sR fun K hK=>?_;(repeat rw [Qa];simp);refine hK _ _ _ ?_;clear hK K);refine Qc fun K1 hK1=>?_
 (refine sR fun K hK=>?_;(repeat rw [Qa];simp);refine hK _ _ _ ?_;clear hK K);refine Qy ?_;refine Qa8 [7,8,9,10,11,12,13,14,15,16,17,18,19,20,21,22,23,24,25] [5,6] (fun n ys hl=>∃(k:Nat) (s:Int),ys= [.int .i64 s, .int .i64 k]/\n+k=l.length/\R=Qeo step q (l.drop k) s/\hl= []) (l.length) (by kernel_rfl) ?_ ?_
 ·exact⟨0,0,rfl,rfl,hR,rfl⟩
 ·rintro n ys hl A hA ⟨i,s,rfl,hn,hF,rfl⟩;simp only [Qh,List.set,List.map_cons,List.map_nil,List.cons_append,List.nil_append];refine Qc fun K2 hK2=>?_
  by_cases hi:i<l.length
  ·have hi':(i:Int)<l.length:=by omega
   by_cases hs:s<=q
   ·(refine sR fun K hK=>?_;(repeat rw [Qa];simp [hi,hi',hs]);refine hK _ _ _ ?_;clear hK K);refine pT rfl ?_;refine Qg (hK2 _ _ _ ?_);clear hK2 K2;refine Qc fun K3 hK3=>?_
    refine Qy ?_;rw [List.drop_eq_getElem_cons hi,Qeo,if_pos hs]at hF;have hrec:=hg l[i] (List.getElem_mem hi) s;obtain⟨x,hx⟩:∃x,l[i]=x:=⟨_,rfl⟩;rw [hx]at hrec hF;unfold Qn at hrec;obtain⟨v,hv⟩:∃v,Qo4 q x=v:=⟨_,rfl⟩;rw [hv]at hrec;rw [hst,hv]at hF;(refine Qi Wa ?_;(repeat rw [Qa];simp [hi,hi',hx,Qn]));refine cXr (hrec) ?_
    (repeat rw [Qa];simp)
    refine hK3 _ _ _ ?_;clear hK3 K3;have hw1:IntKind.i64.wrap ((i:Int)+1)=(i:Int)+1:=Qbp (by omega) (by omega);(refine Qi Wa ?_;(repeat rw [Qa];simp [hw1]));refine hA (n - 1) _ _ _ (LeT.refl _) (by omega) (by kernel_rfl) ?_;exact⟨i+1,_,rfl,by omega,hF,rfl⟩
   ·(refine sR fun K hK=>?_;(repeat rw [Qa];simp [hi,hi',hs]);refine hK _ _ _ ?_;clear hK K);refine pF rfl ?_;refine Qab ?_;refine hK1 _ _ _ ?_;rw [List.drop_eq_getElem_cons hi,Qeo,if_neg hs]at hF;subst hF;(refine sR fun K hK=>?_;(repeat rw [Qa];simp);refine hK _ _ _ ?_;clear hK K);(refine Qe ?_;(try simp only [zs]);refine Qk.ret rfl (.inl ?_);simp [zM])
  ·have hi':¬ (i:Int)<l.length:=by omega
   (refine sR fun K hK=>?_;(repeat rw [Qa];simp [hi,hi']);refine hK _ _ _ ?_;clear hK K);refine pF rfl ?_;refine Qab ?_;refine hK1 _ _ _ ?_;rw [List.drop_of_length_le (by omega),Qeo]at hF;subst hF;(refine sR fun K hK=>?_;(repeat rw [Qa];simp);refine hK _ _ _ ?_;clear hK K);(refine Qe ?_;(try simp only [zs]);refine Qk.ret rfl (.inl ?_);simp [zM])
def lvsN(q:Int)(ls:List LV):Int:=Qeo (fun x s=>IntKind.i64.wrap (s+Qo4 q x)) q ls 0
theorem Qye(ls:List LV)(q:Int)(hl:ls.length<=Ql):Sp 85 [.slice (ls.map Qn) .any, .int .i64 q] [] (rt (.int .i64 (lvsN q ls))) :=
 Qyd ls q _ hl (fun _ _=>rfl) (fun x _ _=>Qyg x q)
mutual
def T.tof:T ->Int ->Int
 | .mk _ _ _ ls ks,q=>IntKind.i64.wrap (IntKind.i64.wrap (1+lvsN q ls)+T.tofs ks 0 q)
def T.tofs:List T ->Int ->Int ->Int
 | [],n,_=>n
 | t::r,n,q=>if n<=q then T.tofs r (IntKind.i64.wrap (n+T.tof t (IntKind.i64.wrap (q - n)))) q else n
end
theorem Qsp(q:Int):∀(l:List T) (n:Int),T.tofs l n q=Qeo (fun x s=>IntKind.i64.wrap (s+T.tof x (IntKind.i64.wrap (q - s)))) q l n
 | [],n=>by rw [T.tofs,Qeo]
 | t::r,n=>by rw [T.tofs,Qeo,Qsp q r]
theorem Wa5(l:List (T))(q:Int)(step:T ->Int ->Int)(hl:l.length<=Ql)(hst:∀x s,step x s=IntKind.i64.wrap (s+T.tof x (IntKind.i64.wrap (q - s))))(hg:∀x,x∈l ->∀s:Int,Sp 42 [Qj x, .int .i64 (IntKind.i64.wrap (q - s))] [] (rt (.int .i64 (T.tof x (IntKind.i64.wrap (q - s)))))) :
  Sp 74 [.slice (l.map Qj) .any, .int .i64 q] [] (rt (.int .i64 (Qeo step q l 0))):=by
 obtain⟨R,hR⟩:∃R,R=Qeo step q l 0:=⟨_,rfl⟩;rw [<- hR];have hl0:=hl;unfold Ql at hl0;refine eN Tryz.func74 rfl (by decide) rfl rfl ?_;(refine sR fun K hK=>?_;(repeat rw [Qa];simp);refine hK _ _ _ ?_;clear hK K);(refine sR fun K hK=>?_;(repeat rw [Qa];simp);refine hK _ _ _ ?_;clear hK K);refine Qc fun K1 hK1=>?_
 (refine sR fun K hK=>?_;(repeat rw [Qa];simp);refine hK _ _ _ ?_;clear hK K);refine Qy ?_;refine Qa8 [7,8,9,10,11,12,13,14,15,16,17,18,19,20,21,22,23,24,25,26,27] [5,6] (fun n ys hl=>∃(k:Nat) (s:Int),ys= [.int .i64 s, .int .i64 k]/\n+k=l.length/\R=Qeo step q (l.drop k) s/\hl= []) (l.length) (by kernel_rfl) ?_ ?_
 ·exact⟨0,0,rfl,rfl,hR,rfl⟩
 ·rintro n ys hl A hA ⟨i,s,rfl,hn,hF,rfl⟩;simp only [Qh,List.set,List.map_cons,List.map_nil,List.cons_append,List.nil_append];refine Qc fun K2 hK2=>?_
  by_cases hi:i<l.length
  ·have hi':(i:Int)<l.length:=by omega
   by_cases hs:s<=q
   ·(refine sR fun K hK=>?_;(repeat rw [Qa];simp [hi,hi',hs]);refine hK _ _ _ ?_;clear hK K);refine pT rfl ?_;refine Qg (hK2 _ _ _ ?_);clear hK2 K2;refine Qc fun K3 hK3=>?_
    refine Qy ?_;rw [List.drop_eq_getElem_cons hi,Qeo,if_pos hs]at hF;have hrec:=hg l[i] (List.getElem_mem hi) s;obtain⟨x,hx⟩:∃x,l[i]=x:=⟨_,rfl⟩;rw [hx]at hrec hF;have hEx:=Qb x;rw [hEx]at hrec;rw [hst]at hF;generalize T.tof x (IntKind.i64.wrap (q - s))=v at hrec hF;(refine Qi Wa ?_;(repeat rw [Qa];simp [hi,hi',hx,hEx]));refine cXr (hrec) ?_
    (repeat rw [Qa];simp)
    refine hK3 _ _ _ ?_;clear hK3 K3;have hw1:IntKind.i64.wrap ((i:Int)+1)=(i:Int)+1:=Qbp (by omega) (by omega);(refine Qi Wa ?_;(repeat rw [Qa];simp [hw1]));refine hA (n - 1) _ _ _ (LeT.refl _) (by omega) (by kernel_rfl) ?_;exact⟨i+1,_,rfl,by omega,hF,rfl⟩
   ·(refine sR fun K hK=>?_;(repeat rw [Qa];simp [hi,hi',hs]);refine hK _ _ _ ?_;clear hK K);refine pF rfl ?_;refine Qab ?_;refine hK1 _ _ _ ?_;rw [List.drop_eq_getElem_cons hi,Qeo,if_neg hs]at hF;subst hF;(refine sR fun K hK=>?_;(repeat rw [Qa];simp);refine hK _ _ _ ?_;clear hK K);(refine Qe ?_;(try simp only [zs]);refine Qk.ret rfl (.inl ?_);simp [zM])
  ·have hi':¬ (i:Int)<l.length:=by omega
   (refine sR fun K hK=>?_;(repeat rw [Qa];simp [hi,hi']);refine hK _ _ _ ?_;clear hK K);refine pF rfl ?_;refine Qab ?_;refine hK1 _ _ _ ?_;rw [List.drop_of_length_le (by omega),Qeo]at hF;subst hF;(refine sR fun K hK=>?_;(repeat rw [Qa];simp);refine hK _ _ _ ?_;clear hK K);(refine Qe ?_;(try simp only [zs]);refine Qk.ret rfl (.inl ?_);simp [zM])
theorem Qsq(t:T):∀q,okT t ->Sp 42 [Qj t, .int .i64 q] [] (rt (.int .i64 (t.tof q))):=by
 induction t using T.ind with
 | h k n a ls ks ih =>
  intro q ht;have hks:=ht.ks;simp only [T.ks_mk]at hks;have hL:=Qye ls q ht.ll;have hT:=Wa5 ks q _ ht.kl (fun _ _=>rfl) (fun x hx s=>ih x hx _ (hks x hx));rw [<- Qsp]at hT;have e:(T.mk k n a ls ks).tof q=IntKind.i64.wrap (IntKind.i64.wrap (1+lvsN q ls)+T.tofs ks 0 q):=by rw [T.tof]
  rw [e];generalize lvsN q ls=v at hL⊢;generalize T.tofs ks 0 q=v2 at hT⊢;rw [Qb];simp only [T.k_mk,T.n_mk,T.a_mk,T.ls_mk,T.ks_mk];refine eN Tryz.func42 rfl (by decide) rfl rfl ?_;(refine sR fun K hK=>?_;(repeat rw [Qa];simp);refine hK _ _ _ ?_;clear hK K);(refine Qc fun K hK=>?_;refine dR fun KT hKT=>?_;(repeat rw [Qd];simp));refine cYp (hL) ?_;(try simp only [zq]);(repeat rw [Qd];simp);refine cYp (hT) ?_;(try simp only [zq]);(repeat rw [Qd];simp);(refine hKT _ _ _ _ (by kernel_rfl) ?_;clear hKT KT);(refine hK _ _ _ ?_;clear hK K);(refine Qe ?_;(try simp only [zs]);refine Qk.ret rfl (.inl ?_);simp [zM])
theorem Qe4(k n a:Int)(ls:List LV)(ks:List T):Qj (.mk k n a ls ks)= .agg [.int .i64 k, .int .i64 n, .int .i64 a, .slice (ls.map Qn) .any, .slice (ks.map Qj) .any]:=Qb _
mutual
def T.dp:T ->Int ->Int
 | .mk _ _ _ _ ks,q=>IntKind.i64.wrap ((if 0<q then T.dps ks (IntKind.i64.wrap (q - 1)) 0 else 0)+1)
def T.dps:List T ->Int ->Int ->Int
 | [],_,s=>s
 | t::r,q,s=>T.dps r q (max s (T.dp t q))
end
theorem Qpt(t:T):∀q,okT t ->Sp 40 [Qj t, .int .i64 q] [] (rt (.int .i64 (t.dp q))):=by
 induction t using T.ind with
 | h kk m a ls ks ih =>
 intro q ht;have hkl:ks.length<=Ql:=ht.kl;have hks:=ht.ks;simp only [T.ks_mk]at hks;unfold Ql at hkl;have hR0:T.dp (.mk kk m a ls ks) q=IntKind.i64.wrap ((if 0<q then T.dps ks (IntKind.i64.wrap (q - 1)) 0 else 0)+1):=by rw [T.dp]
 rw [hR0];rw [Qb];simp only [T.k_mk,T.n_mk,T.a_mk,T.ls_mk,T.ks_mk];refine eN Tryz.func40 rfl (by decide) rfl rfl ?_;(refine sR fun K hK=>?_;(repeat rw [Qa];simp);refine hK _ _ _ ?_;clear hK K);(refine sR fun K hK=>?_;(repeat rw [Qa];simp);refine hK _ _ _ ?_;clear hK K);by_cases hq:0<q
 rotate_left
 ·rw [if_neg hq];refine Qc fun K1 hK1=>?_
  (refine sR fun K hK=>?_;(repeat rw [Qa];simp);refine hK _ _ _ ?_;clear hK K);refine Qy ?_;refine Qa8 [7,8,9,10,11,12,13,14,15,16,17,18,19,20,21,22,23,24,25,26,27] [5,6] (fun n ys hl=>ys= [.int .i64 0, .int .i64 0]/\n=0/\hl= [.cells 27 [.int .i64 kk, .int .i64 m, .int .i64 a, .slice (ls.map Qn) .any, .slice (ks.map Qj) .any]]) (0) (by kernel_rfl) ?_ ?_
  ·exact⟨rfl,rfl,rfl⟩
  ·rintro n ys hl A hA ⟨rfl, -,rfl⟩;simp only [Qh,List.set,List.map_cons,List.map_nil,List.cons_append,List.nil_append];refine Qc fun K2 hK2=>?_
   by_cases h0:0<ks.length
   ·have h0':(0:Int)<ks.length:=by omega
    (refine sR fun K hK=>?_;(repeat rw [Qa];simp [h0,h0',hq]);refine hK _ _ _ ?_;clear hK K);refine pF rfl ?_;refine Qab ?_;refine hK1 _ _ _ ?_;(refine sR fun K hK=>?_;(repeat rw [Qa];simp);refine hK _ _ _ ?_;clear hK K);(refine Qe ?_;(try simp only [zs]);refine Qk.ret rfl (.inl ?_);simp [zM])
   ·have h0':¬ (0:Int)<ks.length:=by omega
    (refine sR fun K hK=>?_;(repeat rw [Qa];simp [h0,h0',hq]);refine hK _ _ _ ?_;clear hK K);refine pF rfl ?_;refine Qab ?_;refine hK1 _ _ _ ?_;(refine sR fun K hK=>?_;(repeat rw [Qa];simp);refine hK _ _ _ ?_;clear hK K);(refine Qe ?_;(try simp only [zs]);refine Qk.ret rfl (.inl ?_);simp [zM])
 rw [if_pos hq];obtain⟨R,hR⟩:∃R,R=T.dps ks (IntKind.i64.wrap (q - 1)) 0:=⟨_,rfl⟩;rw [<- hR];refine Qc fun K1a hK1a=>?_
 (refine sR fun K hK=>?_;(repeat rw [Qa];simp);refine hK _ _ _ ?_;clear hK K);refine Qy ?_;refine Qa8 [7,8,9,10,11,12,13,14,15,16,17,18,19,20,21,22,23,24,25,26,27] [5,6] (fun n ys hl=>∃(k:Nat) (s:Int),ys= [.int .i64 s, .int .i64 k]/\n+k=ks.length/\R=T.dps (ks.drop k) (IntKind.i64.wrap (q - 1)) s/\hl= [.cells 27 [.int .i64 kk, .int .i64 m, .int .i64 a, .slice (ls.map Qn) .any, .slice (ks.map Qj) .any]]) (ks.length) (by kernel_rfl) ?_ ?_
 ·exact⟨0,0,rfl,rfl,hR,rfl⟩
 ·rintro n1 ys hl A1 hA1 ⟨i1,s,rfl,hn,hF,rfl⟩;have hA:=hA1;simp only [Qh,List.set,List.map_cons,List.map_nil,List.cons_append,List.nil_append];refine Qc fun K1b hK1b=>?_
  by_cases hi1:i1<ks.length
  ·have hi1':(i1:Int)<ks.length:=by omega
   rw [List.drop_eq_getElem_cons hi1,T.dps]at hF;have hrec:=ih ks[i1] (List.getElem_mem hi1) (IntKind.i64.wrap (q - 1)) (hks _ (List.getElem_mem hi1));obtain⟨x,hx⟩:∃x,ks[i1]=x:=⟨_,rfl⟩;rw [hx]at hrec hF;have hEx:=Qb x;rw [hEx]at hrec;generalize x.dp (IntKind.i64.wrap (q - 1))=v at hrec hF;(refine sR fun K hK=>?_;(repeat rw [Qa];simp [hi1,hi1',hq]);refine hK _ _ _ ?_;clear hK K);refine pT rfl ?_;refine Qg (hK1b _ _ _ ?_);clear hK1b K1b;refine Qc fun K1c hK1c=>?_
   refine Qy ?_;(refine Qi Wa ?_;(repeat rw [Qa];simp [hi1,hi1',hx,hEx]));refine cXr (hrec) ?_
   (repeat rw [Qa];simp)
   refine hK1c _ _ _ ?_;clear hK1c K1c;have hw1:IntKind.i64.wrap ((i1:Int)+1)=(i1:Int)+1:=Qbp (by omega) (by omega);(refine Qi Wa ?_;(repeat rw [Qa];simp [hw1]));refine hA (n1 - 1) _ _ _ (LeT.refl _) (by omega) (by kernel_rfl) ?_;exact⟨i1+1,_,rfl,by omega,hF,rfl⟩
  ·have hi1':¬ (i1:Int)<ks.length:=by omega
   (refine sR fun K hK=>?_;(repeat rw [Qa];simp [hi1,hi1',hq]);refine hK _ _ _ ?_;clear hK K);refine pF rfl ?_;refine Qab ?_;refine hK1a _ _ _ ?_;clear hK1b K1b;rw [List.drop_of_length_le (by omega),T.dps]at hF;subst hF;(refine sR fun K hK=>?_;(repeat rw [Qa];simp);refine hK _ _ _ ?_;clear hK K);(refine Qe ?_;(try simp only [zs]);refine Qk.ret rfl (.inl ?_);simp [zM])
end Go.Proofs.YtgloldepdhgfaaaGreatDoor
namespace Go.Proofs.YtgloldepdhgfaaaGreatDoor
set_option linter.unusedSimpArgs false
set_option linter.unusedVariables false
open Go.RowKit
def Waj:List LV ->Nat
 | []=>0
 | l::r=>1+l.length+Waj r
mutual
def T.tsz:T ->Nat
 | .mk _ _ _ ls ks=>1+Waj ls+T.tszs ks
def T.tszs:List T ->Nat
 | []=>0
 | t::r=>T.tsz t+T.tszs r
end
mutual
theorem Qrj:∀t:T,t.nsz<=t.tsz
 | .mk _ _ _ ls ks=>by rw [T.nsz,T.tsz];have:=Qox ks;omega
theorem Qox:∀ks:List T,T.nszs ks<=T.tszs ks
 | []=>by rw [T.nszs,T.tszs];exact Nat.le_refl _
 | t::r=>by rw [T.nszs,T.tszs];have:=Qrj t;have:=Qox r;omega
end
def QB:Int:=4611686018427387904
theorem Wck(l:LV)(q:Int)(hl:(l.length:Int)<QB)(hq:0<=q/\q<=QB):1<=Qo4 q l/\Qo4 q l<=1+l.length/\(Qo4 q l<=q ->Qo4 q l=1+l.length):=by
 unfold QB at hl hq;unfold Qo4;rw [Qbp (by omega) (by omega),Qbp (by omega) (by omega)];omega
theorem Qyc(q:Int)(hq:0<=q/\q<=QB):∀(ls:List LV) (s:Int),0<=s ->s+(Waj ls:Int)<=QB ->
  s<=Qeo (fun x s=>IntKind.i64.wrap (s+Qo4 q x)) q ls s/\Qeo (fun x s=>IntKind.i64.wrap (s+Qo4 q x)) q ls s<=s+(Waj ls:Int)/\(Qeo (fun x s=>IntKind.i64.wrap (s+Qo4 q x)) q ls s<=q ->Qeo (fun x s=>IntKind.i64.wrap (s+Qo4 q x)) q ls s=s+(Waj ls:Int))
 | [],s,h0,h1=>by simp only [Qeo,Waj];omega
 | l::r,s,h0,h1=>by
  rw [Qeo];rw [Waj]at h1⊢;split
  ·rename_i hs;have hq2:=hq;unfold QB at h1 hq2;obtain⟨a1,a2,a3⟩:=Wck l q (by unfold QB;omega) hq;rw [Qbp (n:=s+Qo4 q l) (by omega) (by omega)];obtain⟨b1,b2,b3⟩:=Qyc q hq r (s+Qo4 q l) (by omega) (by unfold QB;omega);refine⟨by omega,by omega,fun h=>?_⟩;have:=b3 h;have:=a3 (by omega);omega
  ·omega
mutual
theorem Qql:∀(t:T) (q:Int),(t.tsz:Int)<=QB ->0<=q/\q<=QB ->1<=t.tof q/\t.tof q<=t.tsz/\(t.tof q<=q ->t.tof q=t.tsz)
 | .mk k n a ls ks,q,ht,hq=>by
  rw [T.tsz]at ht;have ht2:=ht;have hq2:=hq;unfold QB at ht2 hq2;obtain⟨a1,a2,a3⟩:=Qyc q hq ls 0 (by omega) (by unfold QB;omega);obtain⟨b1,b2,b3⟩:=Qso ks 0 q (by omega) (by unfold QB;omega) hq;rw [T.tof,T.tsz];unfold lvsN;generalize Qeo (fun x s=>IntKind.i64.wrap (s+Qo4 q x)) q ls 0=v at a1 a2 a3;rw [Qbp (n:=1+v) (by omega) (by omega),Qbp (by omega) (by omega)];refine⟨by omega,by omega,fun h=>?_⟩;have:=a3 (by omega);have:=b3 (by omega);omega
theorem Qso:∀(ks:List T) (s q:Int),0<=s ->s+(T.tszs ks:Int)<=QB ->0<=q/\q<=QB ->s<=T.tofs ks s q/\T.tofs ks s q<=s+(T.tszs ks:Int)/\(T.tofs ks s q<=q ->T.tofs ks s q=s+(T.tszs ks:Int))
 | [],s,q,h0,h1,hq=>by rw [T.tofs,T.tszs];omega
 | t::r,s,q,h0,h1,hq=>by
  rw [T.tofs];rw [T.tszs]at h1⊢;split
  ·rename_i hs;have h2:=h1;have hq2:=hq;unfold QB at h2 hq2;rw [Qbp (n:=q - s) (by omega) (by omega)];obtain⟨a1,a2,a3⟩:=Qql t (q - s) (by unfold QB;omega) ⟨by omega,by unfold QB;omega⟩;rw [Qbp (n:=s+t.tof (q - s)) (by omega) (by omega)];obtain⟨b1,b2,b3⟩:=Qso r (s+t.tof (q - s)) q (by omega) (by unfold QB;omega) hq;refine⟨by omega,by omega,fun h=>?_⟩;have:=b3 h;have:=a3 (by omega);omega
  ·omega
end
def Qpw:List C ->Nat
 | []=>0
 | c::r=>1+c.ty.tsz+c.bo.tsz+Qpw r
theorem Qtz:∀l:List C,l.length<=Qpw l
 | []=>Nat.zero_le _
 | x::r=>by rw [Qpw,List.length_cons];have:=Qtz r;omega
end Go.Proofs.YtgloldepdhgfaaaGreatDoor
namespace Go.Proofs.YtgloldepdhgfaaaGreatDoor
set_option linter.unusedSimpArgs false
set_option linter.unusedVariables false
set_option maxHeartbeats 10000000
set_option maxRecDepth 20000
open Go.RowKit
attribute [local simp] Qx Qm Qo Qp Wn Xg opD Qz Qr Qw Wi hOf Wj Xf Xd TK.isAgg TK.known Ws Wk Wc Qh D.ofV inB Wb Wp Xx Xz Zg Xc Xv Zh IntKind.min IntKind.max IntKind.signed IntKind.bits Wl Xy
theorem Qr0(l:List (C))(q:Int)(step:C ->Int ->Int)(hl:l.length<=Ql)(hst:∀x s,step x s=IntKind.i64.wrap (IntKind.i64.wrap (IntKind.i64.wrap (s+1)+x.ty.tof q)+x.bo.tof q))(hg:∀x,x∈l ->∀s:Int,okC x) :
  Sp 41 [.slice (l.map Qbn) .any, .int .i64 q] [] (rt (.int .i64 (Qeo step q l 0))):=by
 obtain⟨R,hR⟩:∃R,R=Qeo step q l 0:=⟨_,rfl⟩;rw [<- hR];have hl0:=hl;unfold Ql at hl0;refine eN Tryz.func41 rfl (by decide) rfl rfl ?_;(refine sR fun K hK=>?_;(repeat rw [Qa];simp);refine hK _ _ _ ?_;clear hK K);(refine sR fun K hK=>?_;(repeat rw [Qa];simp);refine hK _ _ _ ?_;clear hK K);refine Qc fun K1 hK1=>?_
 (refine sR fun K hK=>?_;(repeat rw [Qa];simp);refine hK _ _ _ ?_;clear hK K);refine Qy ?_;refine Qa8 [7,8,9,10,11,12,13,14,15,16,17,18,19,20,21,22,23,24,25,26,27,28,29,30,31,32,33,34,35] [5,6] (fun n ys hl=>∃(k:Nat) (s:Int),ys= [.int .i64 s, .int .i64 k]/\n+k=l.length/\R=Qeo step q (l.drop k) s/\hl= []) (l.length) (by kernel_rfl) ?_ ?_
 ·exact⟨0,0,rfl,rfl,hR,rfl⟩
 ·rintro n ys hl A hA ⟨i,s,rfl,hn,hF,rfl⟩;simp only [Qh,List.set,List.map_cons,List.map_nil,List.cons_append,List.nil_append];refine Qc fun K2 hK2=>?_
  by_cases hi:i<l.length
  ·have hi':(i:Int)<l.length:=by omega
   by_cases hs:s<=q
   ·(refine sR fun K hK=>?_;(repeat rw [Qa];simp [hi,hi',hs]);refine hK _ _ _ ?_;clear hK K);refine pT rfl ?_;refine Qg (hK2 _ _ _ ?_);clear hK2 K2;refine Qc fun K3 hK3=>?_
    refine Qy ?_;rw [List.drop_eq_getElem_cons hi,Qeo,if_pos hs]at hF;have hrec:=hg l[i] (List.getElem_mem hi) s;obtain⟨x,hx⟩:∃x,l[i]=x:=⟨_,rfl⟩;rw [hx]at hrec hF;have hE:=Qay x;have ht1:=Qsq x.ty q hrec.2.1;have ht2:=Qsq x.bo q hrec.2.2;rw [Qb x.ty]at ht1;rw [Qb x.bo]at ht2;rw [hst]at hF;generalize x.ty.tof q=v1 at ht1 hF;generalize x.bo.tof q=v2 at ht2 hF;(refine dR fun KT hKT=>?_;(repeat rw [Qd];simp [hi,hi',hx,hE]));refine cYp (ht1) ?_;(try simp only [zq]);(repeat rw [Qd];simp [hi,hi',hx,hE]);refine cYp (ht2) ?_;(try simp only [zq]);(repeat rw [Qd];simp [hi,hi',hx,hE]);(refine hKT _ _ _ _ (by kernel_rfl) ?_;clear hKT KT);refine hK3 _ _ _ ?_;clear hK3 K3;have hw1:IntKind.i64.wrap ((i:Int)+1)=(i:Int)+1:=Qbp (by omega) (by omega);(refine Qi Wa ?_;(repeat rw [Qa];simp [hw1]));refine hA (n - 1) _ _ _ (LeT.refl _) (by omega) (by kernel_rfl) ?_;exact⟨i+1,_,rfl,by omega,hF,rfl⟩
   ·(refine sR fun K hK=>?_;(repeat rw [Qa];simp [hi,hi',hs]);refine hK _ _ _ ?_;clear hK K);refine pF rfl ?_;refine Qab ?_;refine hK1 _ _ _ ?_;rw [List.drop_eq_getElem_cons hi,Qeo,if_neg hs]at hF;subst hF;(refine sR fun K hK=>?_;(repeat rw [Qa];simp);refine hK _ _ _ ?_;clear hK K);(refine Qe ?_;(try simp only [zs]);refine Qk.ret rfl (.inl ?_);simp [zM])
  ·have hi':¬ (i:Int)<l.length:=by omega
   (refine sR fun K hK=>?_;(repeat rw [Qa];simp [hi,hi']);refine hK _ _ _ ?_;clear hK K);refine pF rfl ?_;refine Qab ?_;refine hK1 _ _ _ ?_;rw [List.drop_of_length_le (by omega),Qeo]at hF;subst hF;(refine sR fun K hK=>?_;(repeat rw [Qa];simp);refine hK _ _ _ ?_;clear hK K);(refine Qe ?_;(try simp only [zs]);refine Qk.ret rfl (.inl ?_);simp [zM])
inductive HeadsR (l : List C) (h : Nat) (x y : T) (f : Int) : Option (Bool × Int) -> Prop where
 | mis (hp:prs x y=none):HeadsR l h x y f (some (false,f))
 | kids {ds bs:List T} {o:Option (Bool×Int)} (hp:prs x y=some (ds,bs)) (hk:CR l h ds bs f o):HeadsR l h x y f o
set_option maxHeartbeats 8000000 in
theorem Qvu{l:List C}{h:Nat}(H:Qk4 l h){x y:T}{f:Int}{o:Option (Bool×Int)}(h0:0<=f)(h1:f<=1073741824)(hx:okP (f+1) x)(hy:okP (f+1) y)(hr:HeadsR l h x y f o) :
  Sp 191 [.box 0 0,Qj x,Qj y] (Wy f l) (Quc l o):=by
 have hdx:x.deep<=DM:=okS.deep ⟨hx.1,by have:=hx.2;omega⟩;have hdy:y.deep<=DM:=okS.deep ⟨hy.1,by have:=hy.2;omega⟩;have px5:=Qf1 x hx.1 hdx 5 (.inl rfl);have py5:=Qf1 y hy.1 hdy 5 (.inl rfl);have px13:=Qf1 x hx.1 hdx 13 (.inr rfl);have py13:=Qf1 y hy.1 hdy 13 (.inr rfl);have mx:=Qix x hx.1;have my:=Qix y hy.1;have eqf:=Qfo (fun a b=>decide (Wg a=Wg b)) 54 x.ls y.ls hx.1.ll hy.1.ll (fun a b ha hb=>Qop a b (hx.1.ls a ha).1 (hy.1.ls b hb).1);rw [<- Qea]at eqf
 -- what is asked in each case
 have R5:x.k=5\/y.k=5 ->Sp 134 [.box 0 0,Ts (Qar 5 x),Ts (Qar 5 y)] (Wy f l) (Quc l o):=fun hd=>by
  have hp:prs x y=some (Qar 5 x,Qar 5 y):=by unfold prs;rw [if_pos hd]
  cases hr with
  | mis hp'=>rw [hp]at hp';cases hp'
  | kids hp' hk =>
   rw [hp]at hp';cases hp';exact Qhy H (Qhd 5 x y) (Qly 5 x) h0 h1 (fun p hm=>Qhc h0 hx hm) (fun p hm=>Qhc h0 hy hm) hk
 have R13:¬ (x.k=5\/y.k=5) ->x.k=13\/y.k=13 ->Sp 134 [.box 0 0,Ts (Qar 13 x),Ts (Qar 13 y)] (Wy f l) (Quc l o):=fun hn hd=>by
  have hp:prs x y=some (Qar 13 x,Qar 13 y):=by unfold prs;rw [if_neg hn,if_pos hd]
  cases hr with
  | mis hp'=>rw [hp]at hp';cases hp'
  | kids hp' hk =>
   rw [hp]at hp';cases hp';exact Qhy H (Qhd 13 x y) (Qly 13 x) h0 h1 (fun p hm=>Qhc h0 hx hm) (fun p hm=>Qhc h0 hy hm) hk
 have RA:¬ (x.k=5\/y.k=5) ->¬ (x.k=13\/y.k=13) ->Qft x y ->Sp 134 [.box 0 0,Ts (Qat x),Ts (Qat y)] (Wy f l) (Quc l o):=fun hn hn2 hd=>by
  have hp:prs x y=some (Qat x,Qat y):=by unfold prs;rw [if_neg hn,if_neg hn2,if_pos hd]
  cases hr with
  | mis hp'=>rw [hp]at hp';cases hp'
  | kids hp' hk =>
   rw [hp]at hp';cases hp';exact Qhy H (Qxp hp) (Qrl hx) h0 h1 (fun p hm=>Qj5 (hx.le (by omega)) hm) (fun p hm=>Qj5 (hy.le (by omega)) hm) hk
 have RN:¬ (x.k=5\/y.k=5) ->¬ (x.k=13\/y.k=13) ->¬ Qft x y ->o=some (false,f):=fun hn hn2 hd=>by
  have hp:prs x y=none:=by unfold prs;rw [if_neg hn,if_neg hn2,if_neg hd]
  cases hr with
  | mis _=>rfl
  | kids hp' _=>rw [hp]at hp';cases hp'
 clear hr;have hkx:=hx.1.kl;have hky:=hy.1.kl;unfold Qft at RA RN;generalize Qar 5 x=p5 at px5 R5;generalize Qar 5 y=q5 at py5 R5;generalize Qar 13 x=p13 at px13 R13;generalize Qar 13 y=q13 at py13 R13;generalize Qat x=m1 at mx RA;generalize Qat y=m2 at my RA;generalize Qe8 x.ls y.ls=sl at eqf RA RN;have hEx:=Qb x;have hEy:=Qb y;rw [hEx]at px5 px13 mx;rw [hEy]at py5 py13 my;unfold Ts at px5 py5 px13 py13 mx my R5 R13 RA;unfold Wy Cs at R5 R13 RA;unfold Wy Cs;rw [hEx,hEy];clear hEx hEy hx hy hdx hdy H;refine eN Tryz.func191 rfl (by decide) rfl rfl ?_;(refine sR fun K hK=>?_;(repeat rw [Qa];simp);refine hK _ _ _ ?_;clear hK K);refine Qc fun K1 hK1=>?_
 (refine sR fun K hK=>?_;(repeat rw [Qa];simp);refine hK _ _ _ ?_;clear hK K);refine Xm Wa Qf (ti:=3) (tk:=12) (tn:=11) (td:=13) (ts:=34) [6,8,12,13,14,15,16,17,18,19,20,21,22,23,24,25,26,27,28,29,30,31,32,33,34] [] (2) (fun k ys hl=>ys= []/\(1<=k ->¬ (x.k=5\/y.k=5))/\(2<=k ->¬ (x.k=13\/y.k=13))/\hl= [.cells 181 [.int .i64 f, .slice (l.map Qbn) .any], .cells 27 [.int .i64 x.k, .int .i64 x.n, .int .i64 x.a, .slice (x.ls.map Qn) .any, .slice (x.ks.map Qj) .any], .cells 27 [.int .i64 y.k, .int .i64 y.n, .int .i64 y.a, .slice (y.ls.map Qn) .any, .slice (y.ks.map Qj) .any]]) rfl rfl rfl rfl rfl rfl rfl rfl rfl rfl rfl rfl (by simp) (by decide) rfl (by first | assumption | omega | (unfold Ql;omega)) rfl (by kernel_rfl) (by decide) ?_ ?_ ?_
 ·exact⟨rfl,fun h=>absurd h (by omega),fun h=>absurd h (by omega),rfl⟩
 ·rintro i ys hl A hi ⟨rfl,hk1,hk2,rfl⟩ hA hA2;simp only [Qh,List.set,List.map_cons,List.map_nil,List.cons_append,List.nil_append];obtain rfl | rfl:i=0\/i=1:=by omega
  ·(refine sR fun K hK=>?_;(repeat rw [Qa];simp);refine hK _ _ _ ?_;clear hK K);by_cases g1:x.k=5
   ·have hd:x.k=5\/y.k=5:= .inl g1;have hal:=R5 hd;rw [g1]at px5;(refine sR fun K hK=>?_;(repeat rw [Qa];simp [g1]);refine hK _ _ _ ?_;clear hK K);refine pT rfl ?_;cases o with
    | none =>
     rw [Xr]at hal;unfold Xw at hal;(refine Qc fun K hK=>?_;refine dR fun KT hKT=>?_;(repeat rw [Qd];simp));refine cYp (px5) ?_;(try simp only [zq]);(repeat rw [Qd];simp);refine cYp (py5) ?_;(try simp only [zq]);(repeat rw [Qd];simp);refine cYo [0] true false (hal) (fun o h e=>e) ?_;simp [zU];((try simp only [Qt,Qu,Qr,Qw,Wi]);(repeat(refine Wr _ _ _ _ (by kernel_rfl) ?_;simp only [Qr,List.set,List.nil_append,List.cons_append,Nat.reduceAdd]));(try simp only [Qm]));(refine hKT _ _ _ _ (by kernel_rfl) ?_;clear hKT KT);simp [Xi];rw [Xr];unfold Xw;((try simp only [zs]);refine Qk.pan (.inr ⟨[],by decide,by simp,?_⟩);simp [zM])
    | some v =>
     obtain⟨b,g⟩:=v;rw [Xj]at hal;unfold Wy Cs at hal;(refine Qc fun K hK=>?_;refine dR fun KT hKT=>?_;(repeat rw [Qd];simp));refine cYp (px5) ?_;(try simp only [zq]);(repeat rw [Qd];simp);refine cYp (py5) ?_;(try simp only [zq]);(repeat rw [Qd];simp);refine cYo [0] true true (hal) (fun o h e=>e) ?_;simp [zU];(try simp only [zq]);(repeat rw [Qd];simp);(refine hKT _ _ _ _ (by kernel_rfl) ?_;clear hKT KT);(refine hK _ _ _ ?_;clear hK K);rw [Xj];unfold Wy Cs;(refine Qe ?_;(try simp only [zs]);refine Qk.ret rfl (.inr ⟨[],by decide,by simp,?_⟩);simp [zM])
   by_cases g2:y.k=5
   ·have hd:x.k=5\/y.k=5:= .inr g2;have hal:=R5 hd;rw [g2]at py5;(refine sR fun K hK=>?_;(repeat rw [Qa];simp [g1,g2]);refine hK _ _ _ ?_;clear hK K);refine pT rfl ?_;cases o with
    | none =>
     rw [Xr]at hal;unfold Xw at hal;(refine Qc fun K hK=>?_;refine dR fun KT hKT=>?_;(repeat rw [Qd];simp));refine cYp (px5) ?_;(try simp only [zq]);(repeat rw [Qd];simp);refine cYp (py5) ?_;(try simp only [zq]);(repeat rw [Qd];simp);refine cYo [0] true false (hal) (fun o h e=>e) ?_;simp [zU];((try simp only [Qt,Qu,Qr,Qw,Wi]);(repeat(refine Wr _ _ _ _ (by kernel_rfl) ?_;simp only [Qr,List.set,List.nil_append,List.cons_append,Nat.reduceAdd]));(try simp only [Qm]));(refine hKT _ _ _ _ (by kernel_rfl) ?_;clear hKT KT);simp [Xi];rw [Xr];unfold Xw;((try simp only [zs]);refine Qk.pan (.inr ⟨[],by decide,by simp,?_⟩);simp [zM])
    | some v =>
     obtain⟨b,g⟩:=v;rw [Xj]at hal;unfold Wy Cs at hal;(refine Qc fun K hK=>?_;refine dR fun KT hKT=>?_;(repeat rw [Qd];simp));refine cYp (px5) ?_;(try simp only [zq]);(repeat rw [Qd];simp);refine cYp (py5) ?_;(try simp only [zq]);(repeat rw [Qd];simp);refine cYo [0] true true (hal) (fun o h e=>e) ?_;simp [zU];(try simp only [zq]);(repeat rw [Qd];simp);(refine hKT _ _ _ _ (by kernel_rfl) ?_;clear hKT KT);(refine hK _ _ _ ?_;clear hK K);rw [Xj];unfold Wy Cs;(refine Qe ?_;(try simp only [zs]);refine Qk.ret rfl (.inr ⟨[],by decide,by simp,?_⟩);simp [zM])
   (refine sR fun K hK=>?_;(repeat rw [Qa];simp [g1,g2]);refine hK _ _ _ ?_;clear hK K);refine pF rfl ?_;refine Qg ?_;(refine hA2 ([1,2]) _ _ _ (LeT.refl _) (by decide) (by simp) (by simp [zM,Qh]) ?_ rfl;simp [zM]);exact⟨fun _=>by omega,fun h=>absurd h (by omega)⟩
  ·have hn5:=hk1 (Nat.le_refl _);(refine sR fun K hK=>?_;(repeat rw [Qa];simp);refine hK _ _ _ ?_;clear hK K);by_cases g1:x.k=13
   ·have hd:x.k=13\/y.k=13:= .inl g1;have hal:=R13 hn5 hd;rw [g1]at px13;(refine sR fun K hK=>?_;(repeat rw [Qa];simp [g1]);refine hK _ _ _ ?_;clear hK K);refine pT rfl ?_;cases o with
    | none =>
     rw [Xr]at hal;unfold Xw at hal;(refine Qc fun K hK=>?_;refine dR fun KT hKT=>?_;(repeat rw [Qd];simp));refine cYp (px13) ?_;(try simp only [zq]);(repeat rw [Qd];simp);refine cYp (py13) ?_;(try simp only [zq]);(repeat rw [Qd];simp);refine cYo [0] true false (hal) (fun o h e=>e) ?_;simp [zU];((try simp only [Qt,Qu,Qr,Qw,Wi]);(repeat(refine Wr _ _ _ _ (by kernel_rfl) ?_;simp only [Qr,List.set,List.nil_append,List.cons_append,Nat.reduceAdd]));(try simp only [Qm]));(refine hKT _ _ _ _ (by kernel_rfl) ?_;clear hKT KT);simp [Xi];rw [Xr];unfold Xw;((try simp only [zs]);refine Qk.pan (.inr ⟨[],by decide,by simp,?_⟩);simp [zM])
    | some v =>
     obtain⟨b,g⟩:=v;rw [Xj]at hal;unfold Wy Cs at hal;(refine Qc fun K hK=>?_;refine dR fun KT hKT=>?_;(repeat rw [Qd];simp));refine cYp (px13) ?_;(try simp only [zq]);(repeat rw [Qd];simp);refine cYp (py13) ?_;(try simp only [zq]);(repeat rw [Qd];simp);refine cYo [0] true true (hal) (fun o h e=>e) ?_;simp [zU];(try simp only [zq]);(repeat rw [Qd];simp);(refine hKT _ _ _ _ (by kernel_rfl) ?_;clear hKT KT);(refine hK _ _ _ ?_;clear hK K);rw [Xj];unfold Wy Cs;(refine Qe ?_;(try simp only [zs]);refine Qk.ret rfl (.inr ⟨[],by decide,by simp,?_⟩);simp [zM])
   by_cases g2:y.k=13
   ·have hd:x.k=13\/y.k=13:= .inr g2;have hal:=R13 hn5 hd;rw [g2]at py13;(refine sR fun K hK=>?_;(repeat rw [Qa];simp [g1,g2]);refine hK _ _ _ ?_;clear hK K);refine pT rfl ?_;cases o with
    | none =>
     rw [Xr]at hal;unfold Xw at hal;(refine Qc fun K hK=>?_;refine dR fun KT hKT=>?_;(repeat rw [Qd];simp));refine cYp (px13) ?_;(try simp only [zq]);(repeat rw [Qd];simp);refine cYp (py13) ?_;(try simp only [zq]);(repeat rw [Qd];simp);refine cYo [0] true false (hal) (fun o h e=>e) ?_;simp [zU];((try simp only [Qt,Qu,Qr,Qw,Wi]);(repeat(refine Wr _ _ _ _ (by kernel_rfl) ?_;simp only [Qr,List.set,List.nil_append,List.cons_append,Nat.reduceAdd]));(try simp only [Qm]));(refine hKT _ _ _ _ (by kernel_rfl) ?_;clear hKT KT);simp [Xi];rw [Xr];unfold Xw;((try simp only [zs]);refine Qk.pan (.inr ⟨[],by decide,by simp,?_⟩);simp [zM])
    | some v =>
     obtain⟨b,g⟩:=v;rw [Xj]at hal;unfold Wy Cs at hal;(refine Qc fun K hK=>?_;refine dR fun KT hKT=>?_;(repeat rw [Qd];simp));refine cYp (px13) ?_;(try simp only [zq]);(repeat rw [Qd];simp);refine cYp (py13) ?_;(try simp only [zq]);(repeat rw [Qd];simp);refine cYo [0] true true (hal) (fun o h e=>e) ?_;simp [zU];(try simp only [zq]);(repeat rw [Qd];simp);(refine hKT _ _ _ _ (by kernel_rfl) ?_;clear hKT KT);(refine hK _ _ _ ?_;clear hK K);rw [Xj];unfold Wy Cs;(refine Qe ?_;(try simp only [zs]);refine Qk.ret rfl (.inr ⟨[],by decide,by simp,?_⟩);simp [zM])
   (refine sR fun K hK=>?_;(repeat rw [Qa];simp [g1,g2]);refine hK _ _ _ ?_;clear hK K);refine pF rfl ?_;refine Qg ?_;(refine hA2 ([1,2]) _ _ _ (LeT.refl _) (by decide) (by simp) (by simp [zM,Qh]) ?_ rfl;simp [zM]);exact⟨by omega,by omega⟩
 ·rintro ys hl tl' ⟨rfl,hk1,hk2,rfl⟩ htl;refine hK1 _ _ _ (Xn htl ?_);clear hK1 K1 px5 py5 px13 py13 R5 R13;have RA:=RA (hk1 (by omega)) (hk2 (by omega));have RN:=RN (hk1 (by omega)) (hk2 (by omega));clear hk1 hk2;simp only [Qh,List.set,List.map_cons,List.map_nil,List.cons_append,List.nil_append];by_cases e1:x.k=y.k
  rotate_left
  ·rw [RN fun h=>by exact e1 h.1,Xj];unfold Wy Cs;(refine sR fun K hK=>?_;(repeat rw [Qa];simp [e1]);refine hK _ _ _ ?_;clear hK K);(refine Qc fun K hK=>?_;refine dR fun KT hKT=>?_;(repeat rw [Qd];simp));(refine hKT _ _ _ _ (by kernel_rfl) ?_;clear hKT KT);(refine hK _ _ _ ?_;clear hK K);(refine Qe ?_;(try simp only [zs]);refine Qk.ret rfl (.inr ⟨[],by decide,by simp,?_⟩);simp [zM])
  by_cases e2:x.n=y.n
  rotate_left
  ·rw [RN fun h=>by exact e2 h.2.1,Xj];unfold Wy Cs;(refine sR fun K hK=>?_;(repeat rw [Qa];simp [e1,e2]);refine hK _ _ _ ?_;clear hK K);(refine Qc fun K hK=>?_;refine dR fun KT hKT=>?_;(repeat rw [Qd];simp));(refine hKT _ _ _ _ (by kernel_rfl) ?_;clear hKT KT);(refine hK _ _ _ ?_;clear hK K);(refine Qe ?_;(try simp only [zs]);refine Qk.ret rfl (.inr ⟨[],by decide,by simp,?_⟩);simp [zM])
  by_cases e3:x.a=y.a
  rotate_left
  ·rw [RN fun h=>by exact e3 h.2.2.1,Xj];unfold Wy Cs;(refine sR fun K hK=>?_;(repeat rw [Qa];simp [e1,e2,e3]);refine hK _ _ _ ?_;clear hK K);(refine Qc fun K hK=>?_;refine dR fun KT hKT=>?_;(repeat rw [Qd];simp));(refine hKT _ _ _ _ (by kernel_rfl) ?_;clear hKT KT);(refine hK _ _ _ ?_;clear hK K);(refine Qe ?_;(try simp only [zs]);refine Qk.ret rfl (.inr ⟨[],by decide,by simp,?_⟩);simp [zM])
  by_cases e4:x.ks.length=y.ks.length
  rotate_left
  ·have e4':¬ (x.ks.length:Int)=y.ks.length:=by omega
   rw [RN fun h=>by exact e4 h.2.2.2.1,Xj];unfold Wy Cs;(refine sR fun K hK=>?_;(repeat rw [Qa];simp [e1,e2,e3,e4']);refine hK _ _ _ ?_;clear hK K);(refine Qc fun K hK=>?_;refine dR fun KT hKT=>?_;(repeat rw [Qd];simp));(refine hKT _ _ _ _ (by kernel_rfl) ?_;clear hKT KT);(refine hK _ _ _ ?_;clear hK K);(refine Qe ?_;(try simp only [zs]);refine Qk.ret rfl (.inr ⟨[],by decide,by simp,?_⟩);simp [zM])
  have e4':(x.ks.length:Int)=y.ks.length:=by omega
  cases sl with
  | false =>
   rw [RN fun h=>by exact absurd h.2.2.2.2 (by decide),Xj];unfold Wy Cs;(refine sR fun K hK=>?_;(repeat rw [Qa];simp [e1,e2,e3,e4']));refine cXr (eqf) ?_
   (repeat rw [Qa];simp)
   (refine hK _ _ _ ?_;clear hK K);(refine Qc fun K hK=>?_;refine dR fun KT hKT=>?_;(repeat rw [Qd];simp));(refine hKT _ _ _ _ (by kernel_rfl) ?_;clear hKT KT);(refine hK _ _ _ ?_;clear hK K);(refine Qe ?_;(try simp only [zs]);refine Qk.ret rfl (.inr ⟨[],by decide,by simp,?_⟩);simp [zM])
  | true =>
   have RA:=RA ⟨e1,e2,e3,e4,rfl⟩;rw [e1,e2,e3]at mx;(refine sR fun K hK=>?_;(repeat rw [Qa];simp [e1,e2,e3,e4']));refine cXr (eqf) ?_
   (repeat rw [Qa];simp)
   (refine hK _ _ _ ?_;clear hK K);cases o with
   | none =>
    rw [Xr]at RA;unfold Xw at RA;(refine Qc fun K hK=>?_;refine dR fun KT hKT=>?_;(repeat rw [Qd];simp));refine cYp (mx) ?_;(try simp only [zq]);(repeat rw [Qd];simp);refine cYp (my) ?_;(try simp only [zq]);(repeat rw [Qd];simp);refine cYo [0] true false (RA) (fun o h e=>e) ?_;simp [zU];((try simp only [Qt,Qu,Qr,Qw,Wi]);(repeat(refine Wr _ _ _ _ (by kernel_rfl) ?_;simp only [Qr,List.set,List.nil_append,List.cons_append,Nat.reduceAdd]));(try simp only [Qm]));(refine hKT _ _ _ _ (by kernel_rfl) ?_;clear hKT KT);simp [Xi];rw [Xr];unfold Xw;((try simp only [zs]);refine Qk.pan (.inr ⟨[],by decide,by simp,?_⟩);simp [zM])
   | some v =>
    obtain⟨b,g⟩:=v;rw [Xj]at RA;unfold Wy Cs at RA;(refine Qc fun K hK=>?_;refine dR fun KT hKT=>?_;(repeat rw [Qd];simp));refine cYp (mx) ?_;(try simp only [zq]);(repeat rw [Qd];simp);refine cYp (my) ?_;(try simp only [zq]);(repeat rw [Qd];simp);refine cYo [0] true true (RA) (fun o h e=>e) ?_;simp [zU];(try simp only [zq]);(repeat rw [Qd];simp);(refine hKT _ _ _ _ (by kernel_rfl) ?_;clear hKT KT);(refine hK _ _ _ ?_;clear hK K);rw [Xj];unfold Wy Cs;(refine Qe ?_;(try simp only [zs]);refine Qk.ret rfl (.inr ⟨[],by decide,by simp,?_⟩);simp [zM])
theorem CR.one_cases{l:List C}{h:Nat}{p q:T}{f:Int}{o:Option (Bool×Int)}(H:CR l (h+1) [p] [q] f o) :
  (f=0/\o=none)\/(1<=f/\p.sameB q=true/\o=some (true,f - 1))\/(1<=f/\p.sameB q=false/\((HdO l p (f - 1) none/\o=none) \/
   ∃x f1,HdO l p (f - 1) (some (x,f1))/\((HdO l q f1 none/\o=none)\/∃y f2,HdO l q f1 (some (y,f2))/\HeadsR l h x y f2 o))):=by
 cases H with
 | out=>exact .inl ⟨rfl,rfl⟩
 | same hf hs hr=>cases hr;exact .inr (.inl ⟨hf,hs,rfl⟩)
 | gone1 hf hs h1=>exact .inr (.inr ⟨hf,hs, .inl ⟨h1,rfl⟩⟩)
 | gone2 hf hs h1 h2=>exact .inr (.inr ⟨hf,hs, .inr ⟨_,_,h1, .inl ⟨h2,rfl⟩⟩⟩)
 | mis hf hs h1 h2 hp=>exact .inr (.inr ⟨hf,hs, .inr ⟨_,_,h1, .inr ⟨_,_,h2, .mis hp⟩⟩⟩)
 | kids hf hs h1 h2 hp hk hn=>exact .inr (.inr ⟨hf,hs, .inr ⟨_,_,h1, .inr ⟨_,_,h2, .kids hp hk⟩⟩⟩)
 | yes hf hs h1 h2 hp hk hr=>cases hr;exact .inr (.inr ⟨hf,hs, .inr ⟨_,_,h1, .inr ⟨_,_,h2, .kids hp hk⟩⟩⟩)
theorem okP.head1{l:List C}(hcs:okCs l){f g:Int}{t u:T}(h:okP (f+1) t)(hd:HdO l t f (some (u,g))):okP (g+1) u:=h.head hcs (hd.more (by omega))
set_option maxHeartbeats 4000000 in
theorem Qz7{l:List C}(hcs:okCs l){h:Nat}(H:Qk4 l h):Qk4 l (h+1):=by
 intro p q f o h0 h1 hp hq hcr;have sm:=Qb2 p q hp.1 hq.1;have hEp:=Qb p;have hEq:=Qb q;rcases hcr.one_cases with ⟨rfl,rfl⟩ | ⟨hf,hs,rfl⟩ | ⟨hf,hs,hrest⟩
 ·have ca:=Qzu l;rw [Xr];unfold Wy Cs Xw at ca;unfold Wy Cs Xw;rw [hEp,hEq];refine eN Tryz.func136 rfl (by decide) rfl rfl ?_;(refine sR fun K hK=>?_;(repeat rw [Qa];simp);refine hK _ _ _ ?_;clear hK K);(refine sR fun K hK=>?_;(repeat rw [Qa];simp));refine cXo [0] false (ca) ?_;(rintro o hc ⟨rfl,rfl⟩;refine⟨false,?_⟩;simp [zU]);((try simp only [zs]);refine Qk.pan (.inr ⟨[],by decide,by simp,?_⟩);simp [zM])
 ·have ca:=Qe6 f l hf (by omega);rw [hs,hEp,hEq]at sm;rw [Xj];unfold Wy Cs at ca⊢;rw [hEp,hEq];refine eN Tryz.func136 rfl (by decide) rfl rfl ?_;(refine sR fun K hK=>?_;(repeat rw [Qa];simp);refine hK _ _ _ ?_;clear hK K);(refine sR fun K hK=>?_;(repeat rw [Qa];simp));refine cXo [0] false (ca) ?_;(rintro o hc ⟨rfl,rfl⟩;refine⟨false,?_⟩;simp [zU]);(try simp only [zr]);(repeat rw [Qa];simp);(refine hK _ _ _ ?_;clear hK K);refine Qc fun K1 hK1=>?_
  (refine sR fun K hK=>?_;(repeat rw [Qa];simp));refine cXr (sm) ?_
  (repeat rw [Qa];simp)
  (refine hK _ _ _ ?_;clear hK K);refine pT rfl ?_;(refine sR fun K hK=>?_;(repeat rw [Qa];simp);refine hK _ _ _ ?_;clear hK K);(refine Qe ?_;(try simp only [zs]);refine Qk.ret rfl (.inr ⟨[],by decide,by simp,?_⟩);simp [zM])
 ·have ca:=Qe6 f l hf (by omega);rw [hs,hEp,hEq]at sm;have hp1:okP (f - 1+1) p:=by rw [show f - 1+1=f by omega];exact hp
  have ah1:=fun r h=>Qal (r:=r) hcs (by omega) (by omega) hp.1 (hp.le (show f - 1<=f by omega)).2 h
  rcases hrest with ⟨g1,rfl⟩ | ⟨x,f1,g1,hrest⟩
  ·have ah1:Sp 131 [.box 0 0,Qj p] (Wy (f - 1) l) (fun o hc=>o= .pan Xw/\hc= [.dead]):=ah1 _ g1;rw [Xr];unfold Wy Cs at ca;unfold Wy Cs Xw at ah1;unfold Wy Cs Xw;rw [hEp]at ah1;rw [hEp,hEq];refine eN Tryz.func136 rfl (by decide) rfl rfl ?_;(refine sR fun K hK=>?_;(repeat rw [Qa];simp);refine hK _ _ _ ?_;clear hK K);(refine sR fun K hK=>?_;(repeat rw [Qa];simp));refine cXo [0] false (ca) ?_;(rintro o hc ⟨rfl,rfl⟩;refine⟨false,?_⟩;simp [zU]);(try simp only [zr]);(repeat rw [Qa];simp);(refine hK _ _ _ ?_;clear hK K);refine Qc fun K1 hK1=>?_
   (refine sR fun K hK=>?_;(repeat rw [Qa];simp));refine cXr (sm) ?_
   (repeat rw [Qa];simp)
   (refine hK _ _ _ ?_;clear hK K);refine pF rfl ?_;refine Qg (hK1 _ _ _ ?_);(refine sR fun K hK=>?_;(repeat rw [Qa];simp));refine cXo [0] false (ah1) ?_;(rintro o hc ⟨rfl,rfl⟩;refine⟨false,?_⟩;simp [zU]);((try simp only [zs]);refine Qk.pan (.inr ⟨[],by decide,by simp,?_⟩);simp [zM])
  have l1:=g1.le;have hx1:=hp1.head1 hcs g1;have ah1:Sp 131 [.box 0 0,Qj p] (Wy (f - 1) l) (fun o hc=>o.fgt= .ret (Qj x)/\hc=Wy f1 l):=ah1 _ g1;have hq1:=hq.le (show f1+1<=f by omega);have ah2:=fun r h=>Qal (r:=r) hcs l1.1 (by omega) hq.1 (hq.le (show f1<=f by omega)).2 h
  have hEx:=Qb x;unfold Wy Cs at ca;unfold Wy Cs at ah1;rw [hEp,hEx]at ah1;rcases hrest with ⟨g2,rfl⟩ | ⟨y,f2,g2,hR⟩
  ·have ah2:Sp 131 [.box 0 0,Qj q] (Wy f1 l) (fun o hc=>o= .pan Xw/\hc= [.dead]):=ah2 _ g2;rw [Xr];unfold Wy Cs Xw at ah2;unfold Wy Cs Xw;rw [hEq]at ah2;rw [hEp,hEq];refine eN Tryz.func136 rfl (by decide) rfl rfl ?_;(refine sR fun K hK=>?_;(repeat rw [Qa];simp);refine hK _ _ _ ?_;clear hK K);(refine sR fun K hK=>?_;(repeat rw [Qa];simp));refine cXo [0] false (ca) ?_;(rintro o hc ⟨rfl,rfl⟩;refine⟨false,?_⟩;simp [zU]);(try simp only [zr]);(repeat rw [Qa];simp);(refine hK _ _ _ ?_;clear hK K);refine Qc fun K1 hK1=>?_
   (refine sR fun K hK=>?_;(repeat rw [Qa];simp));refine cXr (sm) ?_
   (repeat rw [Qa];simp)
   (refine hK _ _ _ ?_;clear hK K);refine pF rfl ?_;refine Qg (hK1 _ _ _ ?_);(refine sR fun K hK=>?_;(repeat rw [Qa];simp));refine cXf [0] (ah1) ?_;simp [zU]
   (repeat rw [Qa];simp)
   (refine hK _ _ _ ?_;clear hK K);(refine Qc fun K hK=>?_;refine dR fun KT hKT=>?_;(repeat rw [Qd];simp));refine cYo [0] true false (ah2) (fun o h e=>e) ?_;simp [zU];((try simp only [Qt,Qu,Qr,Qw,Wi]);(repeat(refine Wr _ _ _ _ (by kernel_rfl) ?_;simp only [Qr,List.set,List.nil_append,List.cons_append,Nat.reduceAdd]));(try simp only [Qm]));(refine hKT _ _ _ _ (by kernel_rfl) ?_;clear hKT KT);simp [Xi];((try simp only [zs]);refine Qk.pan (.inr ⟨[],by decide,by simp,?_⟩);simp [zM])
  have l2:=g2.le;have hy1:=hq1.head1 hcs g2;have ah2:Sp 131 [.box 0 0,Qj q] (Wy f1 l) (fun o hc=>o.fgt= .ret (Qj y)/\hc=Wy f2 l):=ah2 _ g2;have hh:=Qvu H l2.1 (by omega) (hx1.le (by omega)) hy1 hR;have hEy:=Qb y;unfold Wy Cs at ah2;rw [hEq,hEy]at ah2;rw [hEx,hEy]at hh;clear hR;cases o with
  | none =>
   rw [Xr]at hh⊢;unfold Wy Cs Xw at hh;unfold Wy Cs Xw;rw [hEp,hEq];refine eN Tryz.func136 rfl (by decide) rfl rfl ?_;(refine sR fun K hK=>?_;(repeat rw [Qa];simp);refine hK _ _ _ ?_;clear hK K);(refine sR fun K hK=>?_;(repeat rw [Qa];simp));refine cXo [0] false (ca) ?_;(rintro o hc ⟨rfl,rfl⟩;refine⟨false,?_⟩;simp [zU]);(try simp only [zr]);(repeat rw [Qa];simp);(refine hK _ _ _ ?_;clear hK K);refine Qc fun K1 hK1=>?_
   (refine sR fun K hK=>?_;(repeat rw [Qa];simp));refine cXr (sm) ?_
   (repeat rw [Qa];simp)
   (refine hK _ _ _ ?_;clear hK K);refine pF rfl ?_;refine Qg (hK1 _ _ _ ?_);(refine sR fun K hK=>?_;(repeat rw [Qa];simp));refine cXf [0] (ah1) ?_;simp [zU]
   (repeat rw [Qa];simp)
   (refine hK _ _ _ ?_;clear hK K);(refine Qc fun K hK=>?_;refine dR fun KT hKT=>?_;(repeat rw [Qd];simp));refine cYo [0] true true (ah2) (fun o h e=>e) ?_;simp [zU];(try simp only [zq]);(repeat rw [Qd];simp);refine cYo [0] true false (hh) (fun o h e=>e) ?_;simp [zU];((try simp only [Qt,Qu,Qr,Qw,Wi]);(repeat(refine Wr _ _ _ _ (by kernel_rfl) ?_;simp only [Qr,List.set,List.nil_append,List.cons_append,Nat.reduceAdd]));(try simp only [Qm]));(refine hKT _ _ _ _ (by kernel_rfl) ?_;clear hKT KT);simp [Xi];((try simp only [zs]);refine Qk.pan (.inr ⟨[],by decide,by simp,?_⟩);simp [zM])
  | some v =>
   obtain⟨b,g⟩:=v;rw [Xj]at hh⊢;unfold Wy Cs at hh⊢;rw [hEp,hEq];refine eN Tryz.func136 rfl (by decide) rfl rfl ?_;(refine sR fun K hK=>?_;(repeat rw [Qa];simp);refine hK _ _ _ ?_;clear hK K);(refine sR fun K hK=>?_;(repeat rw [Qa];simp));refine cXo [0] false (ca) ?_;(rintro o hc ⟨rfl,rfl⟩;refine⟨false,?_⟩;simp [zU]);(try simp only [zr]);(repeat rw [Qa];simp);(refine hK _ _ _ ?_;clear hK K);refine Qc fun K1 hK1=>?_
   (refine sR fun K hK=>?_;(repeat rw [Qa];simp));refine cXr (sm) ?_
   (repeat rw [Qa];simp)
   (refine hK _ _ _ ?_;clear hK K);refine pF rfl ?_;refine Qg (hK1 _ _ _ ?_);(refine sR fun K hK=>?_;(repeat rw [Qa];simp));refine cXf [0] (ah1) ?_;simp [zU]
   (repeat rw [Qa];simp)
   (refine hK _ _ _ ?_;clear hK K);(refine Qc fun K hK=>?_;refine dR fun KT hKT=>?_;(repeat rw [Qd];simp));refine cYo [0] true true (ah2) (fun o h e=>e) ?_;simp [zU];(try simp only [zq]);(repeat rw [Qd];simp);refine cYo [0] true true (hh) (fun o h e=>e) ?_;simp [zU];(try simp only [zq]);(repeat rw [Qd];simp);(refine hKT _ _ _ _ (by kernel_rfl) ?_;clear hKT KT);(refine hK _ _ _ ?_;clear hK K);(refine Qe ?_;(try simp only [zs]);refine Qk.ret rfl (.inr ⟨[],by decide,by simp,?_⟩);simp [zM])
theorem Qjx{l:List C}(hcs:okCs l):∀h,Qk4 l h
 | 0=>fun p q f o _ _ _ _ hcr=>by cases hcr
 | h+1=>Qz7 hcs (Qjx hcs h)
theorem Qcx(k:Int)(x y:T):Sp 132 [.int .i64 k, .ref (Qj x), .ref (Qj y)] [] (rt (.bool (decide (x.k=k) && decide (y.k=k)))):=by
 rw [Qb x,Qb y];by_cases h1:x.k=k
 ·by_cases h2:y.k=k
  ·refine eN Tryz.func132 rfl (by decide) rfl rfl ?_;(refine sR fun K hK=>?_;(repeat rw [Qa];simp);refine hK _ _ _ ?_;clear hK K);(refine sR fun K hK=>?_;(repeat rw [Qa];simp [h1,h2]);refine hK _ _ _ ?_;clear hK K);(refine Qe ?_;(try simp only [zs]);refine Qk.ret rfl (.inl ?_);simp [zM]);simp [h1,h2]
  ·refine eN Tryz.func132 rfl (by decide) rfl rfl ?_;(refine sR fun K hK=>?_;(repeat rw [Qa];simp);refine hK _ _ _ ?_;clear hK K);(refine sR fun K hK=>?_;(repeat rw [Qa];simp [h1,h2]);refine hK _ _ _ ?_;clear hK K);(refine Qe ?_;(try simp only [zs]);refine Qk.ret rfl (.inl ?_);simp [zM]);simp [h1,h2]
 ·refine eN Tryz.func132 rfl (by decide) rfl rfl ?_;(refine sR fun K hK=>?_;(repeat rw [Qa];simp);refine hK _ _ _ ?_;clear hK K);(refine sR fun K hK=>?_;(repeat rw [Qa];simp [h1]);refine hK _ _ _ ?_;clear hK K);(refine Qe ?_;(try simp only [zs]);refine Qk.ret rfl (.inl ?_);simp [zM]);simp [h1]
set_option maxHeartbeats 8000000 in
theorem Qx9{l:List C}(hcs:okCs l){h:Nat}{p q:T}{f:Int}{o:Option (Bool×Int)}(L:LR l h p q f o):0<=f ->f<=1073741824 ->okP f p ->okP f q ->Sp 82 [.box 0 0,Qj p,Qj q] (Wy f l) (Quc l o):=by
 induction L with
 | @out p q =>
  intro h0 h1 hp hq;have ca:=Qzu l;rw [Xr];unfold Wy Cs Xw at ca;unfold Wy Cs Xw;rw [Qb p,Qb q];refine eN Tryz.func82 rfl (by decide) rfl rfl ?_;(refine sR fun K hK=>?_;(repeat rw [Qa];simp);refine hK _ _ _ ?_;clear hK K);(refine sR fun K hK=>?_;(repeat rw [Qa];simp));refine cXo [0] false (ca) ?_;(rintro o hc ⟨rfl,rfl⟩;refine⟨false,?_⟩;simp [zU]);((try simp only [zs]);refine Qk.pan (.inr ⟨[],by decide,by simp,?_⟩);simp [zM])
 | @same p q f hf hs =>
  intro h0 h1 hp hq;have ca:=Qe6 f l hf (by omega);have sm:=Qb2 p q hp.1 hq.1;rw [hs,Qb p,Qb q]at sm;rw [Xj];unfold Wy Cs at ca⊢;rw [Qb p,Qb q];refine eN Tryz.func82 rfl (by decide) rfl rfl ?_;(refine sR fun K hK=>?_;(repeat rw [Qa];simp);refine hK _ _ _ ?_;clear hK K);(refine sR fun K hK=>?_;(repeat rw [Qa];simp));refine cXo [0] false (ca) ?_;(rintro o hc ⟨rfl,rfl⟩;refine⟨false,?_⟩;simp [zU]);(try simp only [zr]);(repeat rw [Qa];simp);(refine hK _ _ _ ?_;clear hK K);refine Qc fun K1 hK1=>?_
  (refine sR fun K hK=>?_;(repeat rw [Qa];simp));refine cXr (sm) ?_
  (repeat rw [Qa];simp)
  (refine hK _ _ _ ?_;clear hK K);refine pT rfl ?_;(refine sR fun K hK=>?_;(repeat rw [Qa];simp);refine hK _ _ _ ?_;clear hK K);(refine Qe ?_;(try simp only [zs]);refine Qk.ret rfl (.inr ⟨[],by decide,by simp,?_⟩);simp [zM])
 | @gone1 p q f hf hs g1 =>
  intro h0 h1 hp hq;have ca:=Qe6 f l hf (by omega);have sm:=Qb2 p q hp.1 hq.1;rw [hs,Qb p,Qb q]at sm;have ah1:Sp 131 [.box 0 0,Qj p] (Wy (f - 1) l) (fun o hc=>o= .pan Xw/\hc= [.dead]):=Qal hcs (by omega) (by omega) hp.1 (hp.le (show f - 1<=f by omega)).2 g1;rw [Xr];unfold Wy Cs at ca;unfold Wy Cs Xw at ah1;unfold Wy Cs Xw;rw [Qb p]at ah1;rw [Qb p,Qb q];refine eN Tryz.func82 rfl (by decide) rfl rfl ?_;(refine sR fun K hK=>?_;(repeat rw [Qa];simp);refine hK _ _ _ ?_;clear hK K);(refine sR fun K hK=>?_;(repeat rw [Qa];simp));refine cXo [0] false (ca) ?_;(rintro o hc ⟨rfl,rfl⟩;refine⟨false,?_⟩;simp [zU]);(try simp only [zr]);(repeat rw [Qa];simp);(refine hK _ _ _ ?_;clear hK K);refine Qc fun K1 hK1=>?_
  (refine sR fun K hK=>?_;(repeat rw [Qa];simp));refine cXr (sm) ?_
  (repeat rw [Qa];simp)
  (refine hK _ _ _ ?_;clear hK K);refine pF rfl ?_;refine Qg (hK1 _ _ _ ?_);clear hK1 K1 sm;(refine sR fun K hK=>?_;(repeat rw [Qa];simp));refine cXo [0] false (ah1) ?_;(rintro o hc ⟨rfl,rfl⟩;refine⟨false,?_⟩;simp [zU]);((try simp only [zs]);refine Qk.pan (.inr ⟨[],by decide,by simp,?_⟩);simp [zM])
 | @gone2 p q x f f1 hf hs g1 g2 =>
  intro h0 h1 hp hq;have ca:=Qe6 f l hf (by omega);have sm:=Qb2 p q hp.1 hq.1;rw [hs,Qb p,Qb q]at sm;have l1:=g1.le;have ah1:Sp 131 [.box 0 0,Qj p] (Wy (f - 1) l) (fun o hc=>o.fgt= .ret (Qj x)/\hc=Wy f1 l):=Qal hcs (by omega) (by omega) hp.1 (hp.le (show f - 1<=f by omega)).2 g1;have ah2:Sp 131 [.box 0 0,Qj q] (Wy f1 l) (fun o hc=>o= .pan Xw/\hc= [.dead]):=Qal hcs l1.1 (by omega) hq.1 (hq.le (show f1<=f by omega)).2 g2;rw [Xr];unfold Wy Cs at ca;unfold Wy Cs at ah1;unfold Wy Cs Xw at ah2;unfold Wy Cs Xw;rw [Qb p,Qb x]at ah1;rw [Qb q]at ah2;rw [Qb p,Qb q];refine eN Tryz.func82 rfl (by decide) rfl rfl ?_;(refine sR fun K hK=>?_;(repeat rw [Qa];simp);refine hK _ _ _ ?_;clear hK K);(refine sR fun K hK=>?_;(repeat rw [Qa];simp));refine cXo [0] false (ca) ?_;(rintro o hc ⟨rfl,rfl⟩;refine⟨false,?_⟩;simp [zU]);(try simp only [zr]);(repeat rw [Qa];simp);(refine hK _ _ _ ?_;clear hK K);refine Qc fun K1 hK1=>?_
  (refine sR fun K hK=>?_;(repeat rw [Qa];simp));refine cXr (sm) ?_
  (repeat rw [Qa];simp)
  (refine hK _ _ _ ?_;clear hK K);refine pF rfl ?_;refine Qg (hK1 _ _ _ ?_);clear hK1 K1 sm;(refine sR fun K hK=>?_;(repeat rw [Qa];simp));refine cXf [0] (ah1) ?_;simp [zU]
  (repeat rw [Qa];simp)
  (refine hK _ _ _ ?_;clear hK K);(refine sR fun K hK=>?_;(repeat rw [Qa];simp));refine cXo [0] false (ah2) ?_;(rintro o hc ⟨rfl,rfl⟩;refine⟨false,?_⟩;simp [zU]);((try simp only [zs]);refine Qk.pan (.inr ⟨[],by decide,by simp,?_⟩);simp [zM])
 | @sort p q x y a b f f1 f2 hf hs g1 g2 hx hy =>
  intro h0 h1 hp hq;have ca:=Qe6 f l hf (by omega);have sm:=Qb2 p q hp.1 hq.1;rw [hs,Qb p,Qb q]at sm;have l1:=g1.le;have l2:=g2.le;have ah1:Sp 131 [.box 0 0,Qj p] (Wy (f - 1) l) (fun o hc=>o.fgt= .ret (Qj x)/\hc=Wy f1 l):=Qal hcs (by omega) (by omega) hp.1 (hp.le (show f - 1<=f by omega)).2 g1;have ah2:Sp 131 [.box 0 0,Qj q] (Wy f1 l) (fun o hc=>o.fgt= .ret (Qj y)/\hc=Wy f2 l):=Qal hcs l1.1 (by omega) hq.1 (hq.le (show f1<=f by omega)).2 g2;have hox:okP f2 x:=((hp.le (show f - 1<=f by omega)).head hcs g1).le l2.2;have hoy:okP f2 y:=(hq.le (show f1<=f by omega)).head hcs g2;have b2:=Qcx 2 x y;have b4:=Qcx 4 x y;have hEx:=Qb x;have hEy:=Qb y;unfold Wy Cs at ca ah1 ah2;rw [Qb p,hEx]at ah1;rw [Qb q,hEy]at ah2;rw [hEx,hEy]at b2 b4;have hal:okL a:=hox.1.ls a (by rw [hx.2];exact List.mem_singleton.2 rfl);have hbl:okL b:=hoy.1.ls b (by rw [hy.2];exact List.mem_singleton.2 rfl);have le:=Wcp a b hal.1 hbl.1;generalize Qwf a b=v at le⊢;rw [hx.1,hy.1]at b2;simp only [hx.1,hy.1,hx.2,hy.2]at ah1 ah2 b2;simp at b2;have hLa:Qn a= .agg [.slice (a.map Wv) .any]:=rfl;have hLb:Qn b= .agg [.slice (b.map Wv) .any]:=rfl;simp only [List.map_cons,List.map_nil,hLa,hLb]at ah1 ah2 b2;rw [hLa,hLb]at le;rw [Xj];unfold Wy Cs;rw [Qb p,Qb q];refine eN Tryz.func82 rfl (by decide) rfl rfl ?_;(refine sR fun K hK=>?_;(repeat rw [Qa];simp);refine hK _ _ _ ?_;clear hK K);(refine sR fun K hK=>?_;(repeat rw [Qa];simp));refine cXo [0] false (ca) ?_;(rintro o hc ⟨rfl,rfl⟩;refine⟨false,?_⟩;simp [zU]);(try simp only [zr]);(repeat rw [Qa];simp);(refine hK _ _ _ ?_;clear hK K);refine Qc fun K1 hK1=>?_
  (refine sR fun K hK=>?_;(repeat rw [Qa];simp));refine cXr (sm) ?_
  (repeat rw [Qa];simp)
  (refine hK _ _ _ ?_;clear hK K);refine pF rfl ?_;refine Qg (hK1 _ _ _ ?_);clear hK1 K1 sm;(refine sR fun K hK=>?_;(repeat rw [Qa];simp));refine cXf [0] (ah1) ?_;simp [zU]
  (repeat rw [Qa];simp)
  (refine hK _ _ _ ?_;clear hK K);(refine sR fun K hK=>?_;(repeat rw [Qa];simp));refine cXf [0] (ah2) ?_;simp [zU]
  (repeat rw [Qa];simp)
  (refine hK _ _ _ ?_;clear hK K);clear ca ah1 ah2;(refine Xe (T:=Qq) 3 (ty:=27) (ds:= [.int .i64 2, .int .i64 x.n, .int .i64 x.a, .slice [.agg [.slice (a.map Wv) .any]] .any, .slice (x.ks.map Qj) .any]) rfl rfl (by first | exact⟨rfl, .inr ⟨_,rfl,rfl⟩⟩ | exact⟨rfl, .inl rfl⟩) ?_;simp [D.frzs,D.frz,HO.frz,Qaj,Qao,TK.isAgg,FK.isB,FK.isM,FK.isO,D.isLen]);(refine Xe (T:=Qq) 4 (ty:=27) (ds:= [.int .i64 2, .int .i64 y.n, .int .i64 y.a, .slice [.agg [.slice (b.map Wv) .any]] .any, .slice (y.ks.map Qj) .any]) rfl rfl (by first | exact⟨rfl, .inr ⟨_,rfl,rfl⟩⟩ | exact⟨rfl, .inl rfl⟩) ?_;simp [D.frzs,D.frz,HO.frz,Qaj,Qao,TK.isAgg,FK.isB,FK.isM,FK.isO,D.isLen]);(refine sR fun K hK=>?_;(repeat rw [Qa];simp);refine hK _ _ _ ?_;clear hK K);refine Qc fun K1 hK1=>?_
  refine Qy ?_;(refine sR fun K hK=>?_;(repeat rw [Qa];simp));refine cXr (b2) ?_
  (repeat rw [Qa];simp)
  (refine hK _ _ _ ?_;clear hK K);refine pT rfl ?_;(refine Qc fun K hK=>?_;refine dR fun KT hKT=>?_;(repeat rw [Qd];simp));refine cYp (le) ?_;(try simp only [zq]);(repeat rw [Qd];simp);(refine hKT _ _ _ _ (by kernel_rfl) ?_;clear hKT KT);(refine hK _ _ _ ?_;clear hK K);(refine Qe ?_;(try simp only [zs]);refine Qk.ret rfl (.inr ⟨[],by decide,by simp,?_⟩);simp [zM])
 | @pino p q x y f f1 f2 o hf hs g1 g2 hx hy hk hn =>
  intro h0 h1 hp hq;have ca:=Qe6 f l hf (by omega);have sm:=Qb2 p q hp.1 hq.1;rw [hs,Qb p,Qb q]at sm;have l1:=g1.le;have l2:=g2.le;have ah1:Sp 131 [.box 0 0,Qj p] (Wy (f - 1) l) (fun o hc=>o.fgt= .ret (Qj x)/\hc=Wy f1 l):=Qal hcs (by omega) (by omega) hp.1 (hp.le (show f - 1<=f by omega)).2 g1;have ah2:Sp 131 [.box 0 0,Qj q] (Wy f1 l) (fun o hc=>o.fgt= .ret (Qj y)/\hc=Wy f2 l):=Qal hcs l1.1 (by omega) hq.1 (hq.le (show f1<=f by omega)).2 g2;have hox:okP f2 x:=((hp.le (show f - 1<=f by omega)).head hcs g1).le l2.2;have hoy:okP f2 y:=(hq.le (show f1<=f by omega)).head hcs g2;have b2:=Qcx 2 x y;have b4:=Qcx 4 x y;have hEx:=Qb x;have hEy:=Qb y;unfold Wy Cs at ca ah1 ah2;rw [Qb p,hEx]at ah1;rw [Qb q,hEy]at ah2;rw [hEx,hEy]at b2 b4;have k0x:=Qa5 x hox.1 [0] (by unfold Ql;simp) (by simp);have k0y:=Qa5 y hoy.1 [0] (by unfold Ql;simp) (by simp);have k1x:=Qa5 x hox.1 [1] (by unfold Ql;simp) (by simp);have k1y:=Qa5 y hoy.1 [1] (by unfold Ql;simp) (by simp);unfold Qd3 Ts at k0x k0y k1x k1y;simp only [List.map_cons,List.map_nil]at k0x k0y k1x k1y;rw [show Qi6 x 0=x.kid 0 from rfl]at k0x;rw [show Qi6 y 0=y.kid 0 from rfl]at k0y;rw [show Qi6 x 1=x.kid 1 from rfl]at k1x;rw [show Qi6 y 1=y.kid 1 from rfl]at k1y;have al:=Qhy (Qjx hcs h) (ps:= [x.kid 0]) (qs:= [y.kid 0]) rfl (by unfold Ql;simp) l2.1 (by omega) (fun p' hm=>by rw [List.mem_singleton.1 hm];exact⟨Qaf hox.1 0,Nat.le_trans (Nat.add_le_add_right (Qbo x 0) _) hox.2⟩) (fun p' hm=>by rw [List.mem_singleton.1 hm];exact⟨Qaf hoy.1 0,Nat.le_trans (Nat.add_le_add_right (Qbo y 0) _) hoy.2⟩) hk;unfold Ts at al;simp only [List.map_cons,List.map_nil]at al;rw [hEx]at k0x k1x;rw [hEy]at k0y k1y;simp only [hx,hy]at ah1 ah2 b2 b4 k0x k0y k1x k1y;simp at b2 b4;clear k1x k1y;generalize x.kid 0=kx at k0x al;generalize y.kid 0=ky at k0y al;have hEkx:=Qb kx;have hEky:=Qb ky;rw [hEkx]at k0x al;rw [hEky]at k0y al;clear hk;cases o with
  | none =>
   rw [Xr]at al⊢;unfold Wy Cs Xw at al;unfold Wy Cs Xw;rw [Qb p,Qb q];refine eN Tryz.func82 rfl (by decide) rfl rfl ?_;(refine sR fun K hK=>?_;(repeat rw [Qa];simp);refine hK _ _ _ ?_;clear hK K);(refine sR fun K hK=>?_;(repeat rw [Qa];simp));refine cXo [0] false (ca) ?_;(rintro o hc ⟨rfl,rfl⟩;refine⟨false,?_⟩;simp [zU]);(try simp only [zr]);(repeat rw [Qa];simp);(refine hK _ _ _ ?_;clear hK K);refine Qc fun K1 hK1=>?_
   (refine sR fun K hK=>?_;(repeat rw [Qa];simp));refine cXr (sm) ?_
   (repeat rw [Qa];simp)
   (refine hK _ _ _ ?_;clear hK K);refine pF rfl ?_;refine Qg (hK1 _ _ _ ?_);clear hK1 K1 sm;(refine sR fun K hK=>?_;(repeat rw [Qa];simp));refine cXf [0] (ah1) ?_;simp [zU]
   (repeat rw [Qa];simp)
   (refine hK _ _ _ ?_;clear hK K);(refine sR fun K hK=>?_;(repeat rw [Qa];simp));refine cXf [0] (ah2) ?_;simp [zU]
   (repeat rw [Qa];simp)
   (refine hK _ _ _ ?_;clear hK K);clear ca ah1 ah2;(refine Xe (T:=Qq) 3 (ty:=27) (ds:= [.int .i64 4, .int .i64 x.n, .int .i64 x.a, .slice (x.ls.map Qn) .any, .slice (x.ks.map Qj) .any]) rfl rfl (by first | exact⟨rfl, .inr ⟨_,rfl,rfl⟩⟩ | exact⟨rfl, .inl rfl⟩) ?_;simp [D.frzs,D.frz,HO.frz,Qaj,Qao,TK.isAgg,FK.isB,FK.isM,FK.isO,D.isLen]);(refine Xe (T:=Qq) 4 (ty:=27) (ds:= [.int .i64 4, .int .i64 y.n, .int .i64 y.a, .slice (y.ls.map Qn) .any, .slice (y.ks.map Qj) .any]) rfl rfl (by first | exact⟨rfl, .inr ⟨_,rfl,rfl⟩⟩ | exact⟨rfl, .inl rfl⟩) ?_;simp [D.frzs,D.frz,HO.frz,Qaj,Qao,TK.isAgg,FK.isB,FK.isM,FK.isO,D.isLen]);(refine sR fun K hK=>?_;(repeat rw [Qa];simp);refine hK _ _ _ ?_;clear hK K);refine Qc fun K1 hK1=>?_
   refine Qy ?_;(refine sR fun K hK=>?_;(repeat rw [Qa];simp));refine cXr (b2) ?_
   (repeat rw [Qa];simp)
   (refine hK _ _ _ ?_;clear hK K);refine pF rfl ?_;(refine sR fun K hK=>?_;(repeat rw [Qa];simp));refine cXr (b4) ?_
   (repeat rw [Qa];simp)
   (refine hK _ _ _ ?_;clear hK K);refine pT rfl ?_;refine Qc fun K2 hK2=>?_
   (refine Qc fun K hK=>?_;refine dR fun KT hKT=>?_;(repeat rw [Qd];simp));refine cYp (k0x) ?_;(try simp only [zq]);(repeat rw [Qd];simp);refine cYp (k0y) ?_;(try simp only [zq]);(repeat rw [Qd];simp);refine cYo [0] true false (al) (fun o h e=>e) ?_;simp [zU];((try simp only [Qt,Qu,Qr,Qw,Wi]);(repeat(refine Wr _ _ _ _ (by kernel_rfl) ?_;simp only [Qr,List.set,List.nil_append,List.cons_append,Nat.reduceAdd]));(try simp only [Qm]));(refine hKT _ _ _ _ (by kernel_rfl) ?_;clear hKT KT);simp [Xi];((try simp only [zs]);refine Qk.pan (.inr ⟨[],by decide,by simp,?_⟩);simp [zM])
  | some v =>
   obtain⟨b,g⟩:=v;cases b with
   | true=>exact absurd rfl (hn g)
   | false =>
   rw [Xj]at al⊢;unfold Wy Cs at al⊢;rw [Qb p,Qb q];refine eN Tryz.func82 rfl (by decide) rfl rfl ?_;(refine sR fun K hK=>?_;(repeat rw [Qa];simp);refine hK _ _ _ ?_;clear hK K);(refine sR fun K hK=>?_;(repeat rw [Qa];simp));refine cXo [0] false (ca) ?_;(rintro o hc ⟨rfl,rfl⟩;refine⟨false,?_⟩;simp [zU]);(try simp only [zr]);(repeat rw [Qa];simp);(refine hK _ _ _ ?_;clear hK K);refine Qc fun K1 hK1=>?_
   (refine sR fun K hK=>?_;(repeat rw [Qa];simp));refine cXr (sm) ?_
   (repeat rw [Qa];simp)
   (refine hK _ _ _ ?_;clear hK K);refine pF rfl ?_;refine Qg (hK1 _ _ _ ?_);clear hK1 K1 sm;(refine sR fun K hK=>?_;(repeat rw [Qa];simp));refine cXf [0] (ah1) ?_;simp [zU]
   (repeat rw [Qa];simp)
   (refine hK _ _ _ ?_;clear hK K);(refine sR fun K hK=>?_;(repeat rw [Qa];simp));refine cXf [0] (ah2) ?_;simp [zU]
   (repeat rw [Qa];simp)
   (refine hK _ _ _ ?_;clear hK K);clear ca ah1 ah2;(refine Xe (T:=Qq) 3 (ty:=27) (ds:= [.int .i64 4, .int .i64 x.n, .int .i64 x.a, .slice (x.ls.map Qn) .any, .slice (x.ks.map Qj) .any]) rfl rfl (by first | exact⟨rfl, .inr ⟨_,rfl,rfl⟩⟩ | exact⟨rfl, .inl rfl⟩) ?_;simp [D.frzs,D.frz,HO.frz,Qaj,Qao,TK.isAgg,FK.isB,FK.isM,FK.isO,D.isLen]);(refine Xe (T:=Qq) 4 (ty:=27) (ds:= [.int .i64 4, .int .i64 y.n, .int .i64 y.a, .slice (y.ls.map Qn) .any, .slice (y.ks.map Qj) .any]) rfl rfl (by first | exact⟨rfl, .inr ⟨_,rfl,rfl⟩⟩ | exact⟨rfl, .inl rfl⟩) ?_;simp [D.frzs,D.frz,HO.frz,Qaj,Qao,TK.isAgg,FK.isB,FK.isM,FK.isO,D.isLen]);(refine sR fun K hK=>?_;(repeat rw [Qa];simp);refine hK _ _ _ ?_;clear hK K);refine Qc fun K1 hK1=>?_
   refine Qy ?_;(refine sR fun K hK=>?_;(repeat rw [Qa];simp));refine cXr (b2) ?_
   (repeat rw [Qa];simp)
   (refine hK _ _ _ ?_;clear hK K);refine pF rfl ?_;(refine sR fun K hK=>?_;(repeat rw [Qa];simp));refine cXr (b4) ?_
   (repeat rw [Qa];simp)
   (refine hK _ _ _ ?_;clear hK K);refine pT rfl ?_;refine Qc fun K2 hK2=>?_
   (refine Qc fun K hK=>?_;refine dR fun KT hKT=>?_;(repeat rw [Qd];simp));refine cYp (k0x) ?_;(try simp only [zq]);(repeat rw [Qd];simp);refine cYp (k0y) ?_;(try simp only [zq]);(repeat rw [Qd];simp);refine cYo [0] true true (al) (fun o h e=>e) ?_;simp [zU];(try simp only [zq]);(repeat rw [Qd];simp);(refine hKT _ _ _ _ (by kernel_rfl) ?_;clear hKT KT);(refine hK _ _ _ ?_;clear hK K);refine pT rfl ?_;(refine sR fun K hK=>?_;(repeat rw [Qa];simp);refine hK _ _ _ ?_;clear hK K);(refine Qe ?_;(try simp only [zs]);refine Qk.ret rfl (.inr ⟨[],by decide,by simp,?_⟩);simp [zM])
 | @pi p q x y f f1 f2 g o hf hs g1 g2 hx hy hk hr ih =>
  intro h0 h1 hp hq;have ca:=Qe6 f l hf (by omega);have sm:=Qb2 p q hp.1 hq.1;rw [hs,Qb p,Qb q]at sm;have l1:=g1.le;have l2:=g2.le;have ah1:Sp 131 [.box 0 0,Qj p] (Wy (f - 1) l) (fun o hc=>o.fgt= .ret (Qj x)/\hc=Wy f1 l):=Qal hcs (by omega) (by omega) hp.1 (hp.le (show f - 1<=f by omega)).2 g1;have ah2:Sp 131 [.box 0 0,Qj q] (Wy f1 l) (fun o hc=>o.fgt= .ret (Qj y)/\hc=Wy f2 l):=Qal hcs l1.1 (by omega) hq.1 (hq.le (show f1<=f by omega)).2 g2;have hox:okP f2 x:=((hp.le (show f - 1<=f by omega)).head hcs g1).le l2.2;have hoy:okP f2 y:=(hq.le (show f1<=f by omega)).head hcs g2;have b2:=Qcx 2 x y;have b4:=Qcx 4 x y;have hEx:=Qb x;have hEy:=Qb y;unfold Wy Cs at ca ah1 ah2;rw [Qb p,hEx]at ah1;rw [Qb q,hEy]at ah2;rw [hEx,hEy]at b2 b4;have k0x:=Qa5 x hox.1 [0] (by unfold Ql;simp) (by simp);have k0y:=Qa5 y hoy.1 [0] (by unfold Ql;simp) (by simp);have k1x:=Qa5 x hox.1 [1] (by unfold Ql;simp) (by simp);have k1y:=Qa5 y hoy.1 [1] (by unfold Ql;simp) (by simp);unfold Qd3 Ts at k0x k0y k1x k1y;simp only [List.map_cons,List.map_nil]at k0x k0y k1x k1y;rw [show Qi6 x 0=x.kid 0 from rfl]at k0x;rw [show Qi6 y 0=y.kid 0 from rfl]at k0y;rw [show Qi6 x 1=x.kid 1 from rfl]at k1x;rw [show Qi6 y 1=y.kid 1 from rfl]at k1y;have al:=Qhy (Qjx hcs h) (ps:= [x.kid 0]) (qs:= [y.kid 0]) rfl (by unfold Ql;simp) l2.1 (by omega) (fun p' hm=>by rw [List.mem_singleton.1 hm];exact⟨Qaf hox.1 0,Nat.le_trans (Nat.add_le_add_right (Qbo x 0) _) hox.2⟩) (fun p' hm=>by rw [List.mem_singleton.1 hm];exact⟨Qaf hoy.1 0,Nat.le_trans (Nat.add_le_add_right (Qbo y 0) _) hoy.2⟩) hk;unfold Ts at al;simp only [List.map_cons,List.map_nil]at al;rw [hEx]at k0x k1x;rw [hEy]at k0y k1y;simp only [hx,hy]at ah1 ah2 b2 b4 k0x k0y k1x k1y;simp at b2 b4;have l3:=hk.le l2.1 _ _ rfl;have mo:=ih l3.1 (by omega) (⟨Qaf hox.1 1,Nat.le_trans (Nat.add_le_add_right (Qbo x 1) _) (hox.le l3.2).2⟩) (⟨Qaf hoy.1 1,Nat.le_trans (Nat.add_le_add_right (Qbo y 1) _) (hoy.le l3.2).2⟩);clear ih hr hk;generalize x.kid 0=kx at k0x al;generalize y.kid 0=ky at k0y al;generalize x.kid 1=mx at k1x mo;generalize y.kid 1=my at k1y mo;have hEkx:=Qb kx;have hEky:=Qb ky;have hEmx:=Qb mx;have hEmy:=Qb my;rw [hEkx]at k0x al;rw [hEky]at k0y al;rw [hEmx]at k1x mo;rw [hEmy]at k1y mo;rw [Xj]at al;unfold Wy Cs at al;cases o with
  | none =>
   rw [Xr]at mo⊢;unfold Wy Cs Xw at mo;unfold Wy Cs Xw;rw [Qb p,Qb q];refine eN Tryz.func82 rfl (by decide) rfl rfl ?_;(refine sR fun K hK=>?_;(repeat rw [Qa];simp);refine hK _ _ _ ?_;clear hK K);(refine sR fun K hK=>?_;(repeat rw [Qa];simp));refine cXo [0] false (ca) ?_;(rintro o hc ⟨rfl,rfl⟩;refine⟨false,?_⟩;simp [zU]);(try simp only [zr]);(repeat rw [Qa];simp);(refine hK _ _ _ ?_;clear hK K);refine Qc fun K1 hK1=>?_
   (refine sR fun K hK=>?_;(repeat rw [Qa];simp));refine cXr (sm) ?_
   (repeat rw [Qa];simp)
   (refine hK _ _ _ ?_;clear hK K);refine pF rfl ?_;refine Qg (hK1 _ _ _ ?_);clear hK1 K1 sm;(refine sR fun K hK=>?_;(repeat rw [Qa];simp));refine cXf [0] (ah1) ?_;simp [zU]
   (repeat rw [Qa];simp)
   (refine hK _ _ _ ?_;clear hK K);(refine sR fun K hK=>?_;(repeat rw [Qa];simp));refine cXf [0] (ah2) ?_;simp [zU]
   (repeat rw [Qa];simp)
   (refine hK _ _ _ ?_;clear hK K);clear ca ah1 ah2;(refine Xe (T:=Qq) 3 (ty:=27) (ds:= [.int .i64 4, .int .i64 x.n, .int .i64 x.a, .slice (x.ls.map Qn) .any, .slice (x.ks.map Qj) .any]) rfl rfl (by first | exact⟨rfl, .inr ⟨_,rfl,rfl⟩⟩ | exact⟨rfl, .inl rfl⟩) ?_;simp [D.frzs,D.frz,HO.frz,Qaj,Qao,TK.isAgg,FK.isB,FK.isM,FK.isO,D.isLen]);(refine Xe (T:=Qq) 4 (ty:=27) (ds:= [.int .i64 4, .int .i64 y.n, .int .i64 y.a, .slice (y.ls.map Qn) .any, .slice (y.ks.map Qj) .any]) rfl rfl (by first | exact⟨rfl, .inr ⟨_,rfl,rfl⟩⟩ | exact⟨rfl, .inl rfl⟩) ?_;simp [D.frzs,D.frz,HO.frz,Qaj,Qao,TK.isAgg,FK.isB,FK.isM,FK.isO,D.isLen]);(refine sR fun K hK=>?_;(repeat rw [Qa];simp);refine hK _ _ _ ?_;clear hK K);refine Qc fun K1 hK1=>?_
   refine Qy ?_;(refine sR fun K hK=>?_;(repeat rw [Qa];simp));refine cXr (b2) ?_
   (repeat rw [Qa];simp)
   (refine hK _ _ _ ?_;clear hK K);refine pF rfl ?_;(refine sR fun K hK=>?_;(repeat rw [Qa];simp));refine cXr (b4) ?_
   (repeat rw [Qa];simp)
   (refine hK _ _ _ ?_;clear hK K);refine pT rfl ?_;refine Qc fun K2 hK2=>?_
   (refine Qc fun K hK=>?_;refine dR fun KT hKT=>?_;(repeat rw [Qd];simp));refine cYp (k0x) ?_;(try simp only [zq]);(repeat rw [Qd];simp);refine cYp (k0y) ?_;(try simp only [zq]);(repeat rw [Qd];simp);refine cYo [0] true true (al) (fun o h e=>e) ?_;simp [zU];(try simp only [zq]);(repeat rw [Qd];simp);(refine hKT _ _ _ _ (by kernel_rfl) ?_;clear hKT KT);(refine hK _ _ _ ?_;clear hK K);refine pF rfl ?_;refine Qg (hK2 _ _ _ ?_);(refine Qc fun K hK=>?_;refine dR fun KT hKT=>?_;(repeat rw [Qd];simp));refine cYp (k1x) ?_;(try simp only [zq]);(repeat rw [Qd];simp);refine cYp (k1y) ?_;(try simp only [zq]);(repeat rw [Qd];simp);refine cYo [0] true false (mo) (fun o h e=>e) ?_;simp [zU];((try simp only [Qt,Qu,Qr,Qw,Wi]);(repeat(refine Wr _ _ _ _ (by kernel_rfl) ?_;simp only [Qr,List.set,List.nil_append,List.cons_append,Nat.reduceAdd]));(try simp only [Qm]));(refine hKT _ _ _ _ (by kernel_rfl) ?_;clear hKT KT);simp [Xi];((try simp only [zs]);refine Qk.pan (.inr ⟨[],by decide,by simp,?_⟩);simp [zM])
  | some v =>
   obtain⟨b,g'⟩:=v;rw [Xj]at mo⊢;unfold Wy Cs at mo⊢;rw [Qb p,Qb q];refine eN Tryz.func82 rfl (by decide) rfl rfl ?_;(refine sR fun K hK=>?_;(repeat rw [Qa];simp);refine hK _ _ _ ?_;clear hK K);(refine sR fun K hK=>?_;(repeat rw [Qa];simp));refine cXo [0] false (ca) ?_;(rintro o hc ⟨rfl,rfl⟩;refine⟨false,?_⟩;simp [zU]);(try simp only [zr]);(repeat rw [Qa];simp);(refine hK _ _ _ ?_;clear hK K);refine Qc fun K1 hK1=>?_
   (refine sR fun K hK=>?_;(repeat rw [Qa];simp));refine cXr (sm) ?_
   (repeat rw [Qa];simp)
   (refine hK _ _ _ ?_;clear hK K);refine pF rfl ?_;refine Qg (hK1 _ _ _ ?_);clear hK1 K1 sm;(refine sR fun K hK=>?_;(repeat rw [Qa];simp));refine cXf [0] (ah1) ?_;simp [zU]
   (repeat rw [Qa];simp)
   (refine hK _ _ _ ?_;clear hK K);(refine sR fun K hK=>?_;(repeat rw [Qa];simp));refine cXf [0] (ah2) ?_;simp [zU]
   (repeat rw [Qa];simp)
   (refine hK _ _ _ ?_;clear hK K);clear ca ah1 ah2;(refine Xe (T:=Qq) 3 (ty:=27) (ds:= [.int .i64 4, .int .i64 x.n, .int .i64 x.a, .slice (x.ls.map Qn) .any, .slice (x.ks.map Qj) .any]) rfl rfl (by first | exact⟨rfl, .inr ⟨_,rfl,rfl⟩⟩ | exact⟨rfl, .inl rfl⟩) ?_;simp [D.frzs,D.frz,HO.frz,Qaj,Qao,TK.isAgg,FK.isB,FK.isM,FK.isO,D.isLen]);(refine Xe (T:=Qq) 4 (ty:=27) (ds:= [.int .i64 4, .int .i64 y.n, .int .i64 y.a, .slice (y.ls.map Qn) .any, .slice (y.ks.map Qj) .any]) rfl rfl (by first | exact⟨rfl, .inr ⟨_,rfl,rfl⟩⟩ | exact⟨rfl, .inl rfl⟩) ?_;simp [D.frzs,D.frz,HO.frz,Qaj,Qao,TK.isAgg,FK.isB,FK.isM,FK.isO,D.isLen]);(refine sR fun K hK=>?_;(repeat rw [Qa];simp);refine hK _ _ _ ?_;clear hK K);refine Qc fun K1 hK1=>?_
   refine Qy ?_;(refine sR fun K hK=>?_;(repeat rw [Qa];simp));refine cXr (b2) ?_
   (repeat rw [Qa];simp)
   (refine hK _ _ _ ?_;clear hK K);refine pF rfl ?_;(refine sR fun K hK=>?_;(repeat rw [Qa];simp));refine cXr (b4) ?_
   (repeat rw [Qa];simp)
   (refine hK _ _ _ ?_;clear hK K);refine pT rfl ?_;refine Qc fun K2 hK2=>?_
   (refine Qc fun K hK=>?_;refine dR fun KT hKT=>?_;(repeat rw [Qd];simp));refine cYp (k0x) ?_;(try simp only [zq]);(repeat rw [Qd];simp);refine cYp (k0y) ?_;(try simp only [zq]);(repeat rw [Qd];simp);refine cYo [0] true true (al) (fun o h e=>e) ?_;simp [zU];(try simp only [zq]);(repeat rw [Qd];simp);(refine hKT _ _ _ _ (by kernel_rfl) ?_;clear hKT KT);(refine hK _ _ _ ?_;clear hK K);refine pF rfl ?_;refine Qg (hK2 _ _ _ ?_);(refine Qc fun K hK=>?_;refine dR fun KT hKT=>?_;(repeat rw [Qd];simp));refine cYp (k1x) ?_;(try simp only [zq]);(repeat rw [Qd];simp);refine cYp (k1y) ?_;(try simp only [zq]);(repeat rw [Qd];simp);refine cYo [0] true true (mo) (fun o h e=>e) ?_;simp [zU];(try simp only [zq]);(repeat rw [Qd];simp);(refine hKT _ _ _ _ (by kernel_rfl) ?_;clear hKT KT);(refine hK _ _ _ ?_;clear hK K);(refine Qe ?_;(try simp only [zs]);refine Qk.ret rfl (.inr ⟨[],by decide,by simp,?_⟩);simp [zM])
 | @one p q x y f f1 f2 o hf hs g1 g2 hn hn2 hr =>
  intro h0 h1 hp hq;have ca:=Qe6 f l hf (by omega);have sm:=Qb2 p q hp.1 hq.1;rw [hs,Qb p,Qb q]at sm;have l1:=g1.le;have l2:=g2.le;have ah1:Sp 131 [.box 0 0,Qj p] (Wy (f - 1) l) (fun o hc=>o.fgt= .ret (Qj x)/\hc=Wy f1 l):=Qal hcs (by omega) (by omega) hp.1 (hp.le (show f - 1<=f by omega)).2 g1;have ah2:Sp 131 [.box 0 0,Qj q] (Wy f1 l) (fun o hc=>o.fgt= .ret (Qj y)/\hc=Wy f2 l):=Qal hcs l1.1 (by omega) hq.1 (hq.le (show f1<=f by omega)).2 g2;have hox:okP f2 x:=((hp.le (show f - 1<=f by omega)).head hcs g1).le l2.2;have hoy:okP f2 y:=(hq.le (show f1<=f by omega)).head hcs g2;have b2:=Qcx 2 x y;have b4:=Qcx 4 x y;have hEx:=Qb x;have hEy:=Qb y;unfold Wy Cs at ca ah1 ah2;rw [Qb p,hEx]at ah1;rw [Qb q,hEy]at ah2;rw [hEx,hEy]at b2 b4;have on:=Qjx hcs h x y f2 o l2.1 (by omega) hox hoy hr;rw [hEx,hEy]at on;have hlx:x.ls.length<=Ql:=hox.1.ll;have hly:y.ls.length<=Ql:=hoy.1.ll
  rw [show(decide (x.k=4) && decide (y.k=4))=false from by
   rw [Bool.eq_false_iff];intro h;simp at h;exact hn2 h]at b4
  unfold Wy Cs at on;rw [Qb p,Qb q];clear hr;obtain⟨G1,hG1⟩:∃G,G=(decide (x.k=2) && decide (y.k=2)):=⟨_,rfl⟩;rw [<- hG1]at b2;obtain⟨K,hK⟩:∃K:List HO ->Prop,K=K:=⟨fun _=>True,rfl⟩;clear hK K;cases o with
  | none =>
   rw [Xr]at on⊢;unfold Xw at on;unfold Wy Cs Xw;refine eN Tryz.func82 rfl (by decide) rfl rfl ?_;(refine sR fun K hK=>?_;(repeat rw [Qa];simp);refine hK _ _ _ ?_;clear hK K);(refine sR fun K hK=>?_;(repeat rw [Qa];simp));refine cXo [0] false (ca) ?_;(rintro o hc ⟨rfl,rfl⟩;refine⟨false,?_⟩;simp [zU]);(try simp only [zr]);(repeat rw [Qa];simp);(refine hK _ _ _ ?_;clear hK K);refine Qc fun K1 hK1=>?_
   (refine sR fun K hK=>?_;(repeat rw [Qa];simp));refine cXr (sm) ?_
   (repeat rw [Qa];simp)
   (refine hK _ _ _ ?_;clear hK K);refine pF rfl ?_;refine Qg (hK1 _ _ _ ?_);clear hK1 K1 sm;(refine sR fun K hK=>?_;(repeat rw [Qa];simp));refine cXf [0] (ah1) ?_;simp [zU]
   (repeat rw [Qa];simp)
   (refine hK _ _ _ ?_;clear hK K);(refine sR fun K hK=>?_;(repeat rw [Qa];simp));refine cXf [0] (ah2) ?_;simp [zU]
   (repeat rw [Qa];simp)
   (refine hK _ _ _ ?_;clear hK K);clear ca ah1 ah2;(refine Xe (T:=Qq) 3 (ty:=27) (ds:= [.int .i64 x.k, .int .i64 x.n, .int .i64 x.a, .slice (x.ls.map Qn) .any, .slice (x.ks.map Qj) .any]) rfl rfl (by first | exact⟨rfl, .inr ⟨_,rfl,rfl⟩⟩ | exact⟨rfl, .inl rfl⟩) ?_;simp [D.frzs,D.frz,HO.frz,Qaj,Qao,TK.isAgg,FK.isB,FK.isM,FK.isO,D.isLen]);(refine Xe (T:=Qq) 4 (ty:=27) (ds:= [.int .i64 y.k, .int .i64 y.n, .int .i64 y.a, .slice (y.ls.map Qn) .any, .slice (y.ks.map Qj) .any]) rfl rfl (by first | exact⟨rfl, .inr ⟨_,rfl,rfl⟩⟩ | exact⟨rfl, .inl rfl⟩) ?_;simp [D.frzs,D.frz,HO.frz,Qaj,Qao,TK.isAgg,FK.isB,FK.isM,FK.isO,D.isLen]);(refine sR fun K hK=>?_;(repeat rw [Qa];simp);refine hK _ _ _ ?_;clear hK K);refine Qc fun K1 hK1=>?_
   refine Qy ?_;cases G1 with
   | false =>
    (refine sR fun K hK=>?_;(repeat rw [Qa];simp));refine cXr (b2) ?_
    (repeat rw [Qa];simp)
    (refine hK _ _ _ ?_;clear hK K);refine pF rfl ?_;(refine sR fun K hK=>?_;(repeat rw [Qa];simp));refine cXr (b4) ?_
    (repeat rw [Qa];simp)
    (refine hK _ _ _ ?_;clear hK K);refine pF rfl ?_;refine Qg (hK1 _ _ _ ?_);(refine sR fun K hK=>?_;(repeat rw [Qa];simp));refine cXo [0] false (on) ?_;(rintro o hc ⟨rfl,rfl⟩;refine⟨false,?_⟩;simp [zU]);((try simp only [zs]);refine Qk.pan (.inr ⟨[],by decide,by simp,?_⟩);simp [zM])
   | true =>
    have hn':¬ (x.ls.length=1/\y.ls.length=1):=fun hh=>by simp at hG1;exact hn ⟨hG1.1,hG1.2,hh.1,hh.2⟩
    by_cases e1:x.ls.length=1
    ·have e2:¬ y.ls.length=1:=fun e2=>hn' ⟨e1,e2⟩
     have e1':(x.ls.length:Int)=1:=by omega
     have e2':¬ (y.ls.length:Int)=1:=by omega
     (refine sR fun K hK=>?_;(repeat rw [Qa];simp [e1,e1',e2,e2']));refine cXr (b2) ?_
     (repeat rw [Qa];simp [e1,e1',e2,e2'])
     (refine hK _ _ _ ?_;clear hK K);refine pF rfl ?_;(refine sR fun K hK=>?_;(repeat rw [Qa];simp));refine cXr (b4) ?_
     (repeat rw [Qa];simp)
     (refine hK _ _ _ ?_;clear hK K);refine pF rfl ?_;refine Qg (hK1 _ _ _ ?_);(refine sR fun K hK=>?_;(repeat rw [Qa];simp));refine cXo [0] false (on) ?_;(rintro o hc ⟨rfl,rfl⟩;refine⟨false,?_⟩;simp [zU]);((try simp only [zs]);refine Qk.pan (.inr ⟨[],by decide,by simp,?_⟩);simp [zM])
    ·have e1':¬ (x.ls.length:Int)=1:=by omega
     (refine sR fun K hK=>?_;(repeat rw [Qa];simp [e1,e1']));refine cXr (b2) ?_
     (repeat rw [Qa];simp [e1,e1'])
     (refine hK _ _ _ ?_;clear hK K);refine pF rfl ?_;(refine sR fun K hK=>?_;(repeat rw [Qa];simp));refine cXr (b4) ?_
     (repeat rw [Qa];simp)
     (refine hK _ _ _ ?_;clear hK K);refine pF rfl ?_;refine Qg (hK1 _ _ _ ?_);(refine sR fun K hK=>?_;(repeat rw [Qa];simp));refine cXo [0] false (on) ?_;(rintro o hc ⟨rfl,rfl⟩;refine⟨false,?_⟩;simp [zU]);((try simp only [zs]);refine Qk.pan (.inr ⟨[],by decide,by simp,?_⟩);simp [zM])
  | some v =>
   obtain⟨b,g⟩:=v;rw [Xj]at on⊢;unfold Wy Cs at on⊢;refine eN Tryz.func82 rfl (by decide) rfl rfl ?_;(refine sR fun K hK=>?_;(repeat rw [Qa];simp);refine hK _ _ _ ?_;clear hK K);(refine sR fun K hK=>?_;(repeat rw [Qa];simp));refine cXo [0] false (ca) ?_;(rintro o hc ⟨rfl,rfl⟩;refine⟨false,?_⟩;simp [zU]);(try simp only [zr]);(repeat rw [Qa];simp);(refine hK _ _ _ ?_;clear hK K);refine Qc fun K1 hK1=>?_
   (refine sR fun K hK=>?_;(repeat rw [Qa];simp));refine cXr (sm) ?_
   (repeat rw [Qa];simp)
   (refine hK _ _ _ ?_;clear hK K);refine pF rfl ?_;refine Qg (hK1 _ _ _ ?_);clear hK1 K1 sm;(refine sR fun K hK=>?_;(repeat rw [Qa];simp));refine cXf [0] (ah1) ?_;simp [zU]
   (repeat rw [Qa];simp)
   (refine hK _ _ _ ?_;clear hK K);(refine sR fun K hK=>?_;(repeat rw [Qa];simp));refine cXf [0] (ah2) ?_;simp [zU]
   (repeat rw [Qa];simp)
   (refine hK _ _ _ ?_;clear hK K);clear ca ah1 ah2;(refine Xe (T:=Qq) 3 (ty:=27) (ds:= [.int .i64 x.k, .int .i64 x.n, .int .i64 x.a, .slice (x.ls.map Qn) .any, .slice (x.ks.map Qj) .any]) rfl rfl (by first | exact⟨rfl, .inr ⟨_,rfl,rfl⟩⟩ | exact⟨rfl, .inl rfl⟩) ?_;simp [D.frzs,D.frz,HO.frz,Qaj,Qao,TK.isAgg,FK.isB,FK.isM,FK.isO,D.isLen]);(refine Xe (T:=Qq) 4 (ty:=27) (ds:= [.int .i64 y.k, .int .i64 y.n, .int .i64 y.a, .slice (y.ls.map Qn) .any, .slice (y.ks.map Qj) .any]) rfl rfl (by first | exact⟨rfl, .inr ⟨_,rfl,rfl⟩⟩ | exact⟨rfl, .inl rfl⟩) ?_;simp [D.frzs,D.frz,HO.frz,Qaj,Qao,TK.isAgg,FK.isB,FK.isM,FK.isO,D.isLen]);(refine sR fun K hK=>?_;(repeat rw [Qa];simp);refine hK _ _ _ ?_;clear hK K);refine Qc fun K1 hK1=>?_
   refine Qy ?_;cases G1 with
   | false =>
    (refine sR fun K hK=>?_;(repeat rw [Qa];simp));refine cXr (b2) ?_
    (repeat rw [Qa];simp)
    (refine hK _ _ _ ?_;clear hK K);refine pF rfl ?_;(refine sR fun K hK=>?_;(repeat rw [Qa];simp));refine cXr (b4) ?_
    (repeat rw [Qa];simp)
    (refine hK _ _ _ ?_;clear hK K);refine pF rfl ?_;refine Qg (hK1 _ _ _ ?_);(refine sR fun K hK=>?_;(repeat rw [Qa];simp));refine cXf [0] (on) ?_;simp [zU]
    (repeat rw [Qa];simp)
    (refine hK _ _ _ ?_;clear hK K);(refine Qe ?_;(try simp only [zs]);refine Qk.ret rfl (.inr ⟨[],by decide,by simp,?_⟩);simp [zM])
   | true =>
    have hn':¬ (x.ls.length=1/\y.ls.length=1):=fun hh=>by simp at hG1;exact hn ⟨hG1.1,hG1.2,hh.1,hh.2⟩
    by_cases e1:x.ls.length=1
    ·have e2:¬ y.ls.length=1:=fun e2=>hn' ⟨e1,e2⟩
     have e1':(x.ls.length:Int)=1:=by omega
     have e2':¬ (y.ls.length:Int)=1:=by omega
     (refine sR fun K hK=>?_;(repeat rw [Qa];simp [e1,e1',e2,e2']));refine cXr (b2) ?_
     (repeat rw [Qa];simp [e1,e1',e2,e2'])
     (refine hK _ _ _ ?_;clear hK K);refine pF rfl ?_;(refine sR fun K hK=>?_;(repeat rw [Qa];simp));refine cXr (b4) ?_
     (repeat rw [Qa];simp)
     (refine hK _ _ _ ?_;clear hK K);refine pF rfl ?_;refine Qg (hK1 _ _ _ ?_);(refine sR fun K hK=>?_;(repeat rw [Qa];simp));refine cXf [0] (on) ?_;simp [zU]
     (repeat rw [Qa];simp)
     (refine hK _ _ _ ?_;clear hK K);(refine Qe ?_;(try simp only [zs]);refine Qk.ret rfl (.inr ⟨[],by decide,by simp,?_⟩);simp [zM])
    ·have e1':¬ (x.ls.length:Int)=1:=by omega
     (refine sR fun K hK=>?_;(repeat rw [Qa];simp [e1,e1']));refine cXr (b2) ?_
     (repeat rw [Qa];simp [e1,e1'])
     (refine hK _ _ _ ?_;clear hK K);refine pF rfl ?_;(refine sR fun K hK=>?_;(repeat rw [Qa];simp));refine cXr (b4) ?_
     (repeat rw [Qa];simp)
     (refine hK _ _ _ ?_;clear hK K);refine pF rfl ?_;refine Qg (hK1 _ _ _ ?_);(refine sR fun K hK=>?_;(repeat rw [Qa];simp));refine cXf [0] (on) ?_;simp [zU]
     (repeat rw [Qa];simp)
     (refine hK _ _ _ ?_;clear hK K);(refine Qe ?_;(try simp only [zs]);refine Qk.ret rfl (.inr ⟨[],by decide,by simp,?_⟩);simp [zM])
def Wam:Option (Bool×Int) ->D
 | some (b,g)=> .tuple [.bool b, .int .i64 g, .int .i64 0]
 | none=> .tuple [.bool false, .int .i64 0, .int .i64 5]
theorem Qqm(b:Bool)(x y:Int):Qge Tryz.prog glob 129 [.box 0 0, .box 1 0, .box 2 0] [.cells 33 [.int .i64 y], .cells 4 [.bool b], .cells 3 [.int .i64 x]] none
  (fun hc=>hc= [.cells 33 [.int .i64 y], .cells 4 [.bool b], .cells 3 [.int .i64 x]]):=by
 refine Qaq Wa Tryz.func129 rfl rfl (fun a w=>rfl) rfl (Qch _ _ Tryz.func129 rfl (by decide)) rfl rfl ?_;(try simp only [zr]);(repeat rw [Qa];simp);(refine sR fun K hK=>?_;(repeat rw [Qa];simp);refine hK _ _ _ ?_;clear hK K);refine pF rfl ?_;refine Qg ?_;refine Qk.nrm rfl ?_;simp [Qw]
theorem Qqn(b:Bool)(x y:Int):Qge Tryz.prog glob 129 [.box 0 0, .box 1 0, .box 2 0] [.cells 33 [.int .i64 y], .cells 4 [.bool b], .cells 3 [.int .i64 x]] (some Xw)
  (fun hc=>hc= [.cells 33 [.int .i64 5], .cells 4 [.bool false], .cells 3 [.int .i64 0]]):=by
 refine Qaq Wa Tryz.func129 rfl rfl (fun a w=>rfl) rfl (Qch _ _ Tryz.func129 rfl (by decide)) rfl rfl ?_;unfold Xw;(try simp only [zr]);(repeat rw [Qa];simp);(refine sR fun K hK=>?_;(repeat rw [Qa];simp);refine hK _ _ _ ?_;clear hK K);refine pT rfl ?_;(refine sR fun K hK=>?_;(repeat rw [Qa];simp);refine hK _ _ _ ?_;clear hK K);refine Qc fun K1 hK1=>?_
 (refine sR fun K hK=>?_;(repeat rw [Qa];simp);refine hK _ _ _ ?_;clear hK K);(refine sR fun K hK=>?_;(repeat rw [Qa];simp);refine hK _ _ _ ?_;clear hK K);refine pF rfl ?_;refine Qg (hK1 _ _ _ ?_);(refine Qi Wa ?_;(repeat rw [Qa];simp));refine Qk.nrm rfl ?_;simp
theorem Qog{l:List C}(g:FuncId)(a b:T){f:Int}(h0:0<=f)(h1:f<=1073741824){r:Option (Bool×Int)}(hsp:Sp g [.box 0 0, .ref (Qj a), .ref (Qj b)] (Wy f l) (Quc l r)) :
  Sp 80 [Cs l, .int .i64 f, .fn (.func g) [] [.ref (Qj a), .ref (Qj b)]] [] (rt (Wam r)):=by
 have h0':¬ f<0:=by omega
 have h1':¬ 1073741824<f:=by omega
 have hEa:=Qb a;have hEb:=Qb b;rw [hEa,hEb]at hsp;rw [hEa,hEb];cases r with
 | none =>
  rw [Xr]at hsp;unfold Wy Cs Xw at hsp;unfold Cs Wam;have hcg:=Qqn false 0 0;unfold Xw at hcg;refine eD Tryz.func80 rfl (by decide) rfl rfl ?_;(refine sR fun K hK=>?_;(repeat rw [Qa];simp);refine hK _ _ _ ?_;clear hK K);refine Qc fun K1 hK1=>?_
  (refine sR fun K hK=>?_;(repeat rw [Qa];simp [h0',h1']);refine hK _ _ _ ?_;clear hK K);refine pF rfl ?_;refine Qg (hK1 _ _ _ ?_);(refine sR fun K hK=>?_;(repeat rw [Qa];simp);refine hK _ _ _ ?_;clear hK K);(refine sR fun K hK=>?_;(repeat rw [Qa];simp);refine hK _ _ _ ?_;clear hK K);(refine sR fun K hK=>?_;(repeat rw [Qa];simp));refine cXo [3] false (hsp) ?_;(rintro o hc ⟨rfl,rfl⟩;refine⟨false,?_⟩;simp [zU]);(try simp only [zs]);refine Qfb.objs Qf [2,0,1] hcg ?_ ?_ (fun d h=>by cases h;rfl) (by decide) (by simp) (by simp [zA]) (by simp [zA]) (by simp [zA]) (by simp [zA])
  ·rintro hc rfl;simp [zA,upO,Qw,Wi];refine Qen.intro rfl (.inr ⟨[],by decide,by simp,?_⟩);simp [zM]
   try simp [Out.fgt,D.fgt,D.fgts]
  ·rintro hc rfl;simp
 | some v =>
  obtain⟨bb,gg⟩:=v;rw [Xj]at hsp;unfold Wy Cs at hsp;unfold Cs Wam;refine eD Tryz.func80 rfl (by decide) rfl rfl ?_;(refine sR fun K hK=>?_;(repeat rw [Qa];simp);refine hK _ _ _ ?_;clear hK K);refine Qc fun K1 hK1=>?_
  (refine sR fun K hK=>?_;(repeat rw [Qa];simp [h0',h1']);refine hK _ _ _ ?_;clear hK K);refine pF rfl ?_;refine Qg (hK1 _ _ _ ?_);(refine sR fun K hK=>?_;(repeat rw [Qa];simp);refine hK _ _ _ ?_;clear hK K);(refine sR fun K hK=>?_;(repeat rw [Qa];simp);refine hK _ _ _ ?_;clear hK K);(refine sR fun K hK=>?_;(repeat rw [Qa];simp));refine cXf [3] (hsp) ?_;simp [zU]
  (repeat rw [Qa];simp)
  (refine hK _ _ _ ?_;clear hK K);(refine Qc fun K hK=>?_;refine dR fun KT hKT=>?_;(repeat rw [Qd];simp));(refine hKT _ _ _ _ (by kernel_rfl) ?_;clear hKT KT);(refine hK _ _ _ ?_;clear hK K);refine Qe ?_;refine Qfb.objs Qf [2,0,1] (Qqm bb gg 0) ?_ ?_ (fun d h=>by cases h) (by decide) (by simp) (by simp [zA]) (by simp [zA]) (by simp [zA]) (by simp [zA])
  ·rintro hc rfl;simp [zA,upO,Qw,Wi];refine Qen.intro rfl (.inr ⟨[],by decide,by simp,?_⟩);simp [zM]
   try simp [Out.fgt,D.fgt,D.fgts]
  ·rintro hc rfl;simp
theorem Qv2{l:List C}(a b:T){f:Int}{r:Option (Bool×Int)}(on:Sp 136 [.box 0 0,Qj a,Qj b] (Wy f l) (Quc l r)) :
  Sp 209 [.box 0 0, .ref (Qj a), .ref (Qj b)] (Wy f l) (Quc l r):=by
 have hEa:=Qb a;have hEb:=Qb b;rw [hEa,hEb]at on;rw [hEa,hEb];cases r with
 | none =>
  rw [Xr]at on⊢;unfold Wy Cs Xw at on;unfold Wy Cs Xw;refine eN Tryz.func209 rfl (by decide) rfl rfl ?_;(refine sR fun K hK=>?_;(repeat rw [Qa];simp);refine hK _ _ _ ?_;clear hK K);(refine sR fun K hK=>?_;(repeat rw [Qa];simp));refine cXo [0] false (on) ?_;(rintro o hc ⟨rfl,rfl⟩;refine⟨false,?_⟩;simp [zU]);((try simp only [zs]);refine Qk.pan (.inr ⟨[],by decide,by simp,?_⟩);simp [zM])
 | some v =>
  obtain⟨bb,gg⟩:=v;rw [Xj]at on⊢;unfold Wy Cs at on⊢;refine eN Tryz.func209 rfl (by decide) rfl rfl ?_;(refine sR fun K hK=>?_;(repeat rw [Qa];simp);refine hK _ _ _ ?_;clear hK K);(refine sR fun K hK=>?_;(repeat rw [Qa];simp));refine cXf [0] (on) ?_;simp [zU]
  (repeat rw [Qa];simp)
  (refine hK _ _ _ ?_;clear hK K);(refine Qe ?_;(try simp only [zs]);refine Qk.ret rfl (.inr ⟨[],by decide,by simp,?_⟩);simp [zM])
theorem Qvh{l:List C}(a b:T){f:Int}{r:Option (Bool×Int)}(on:Sp 82 [.box 0 0,Qj a,Qj b] (Wy f l) (Quc l r)) :
  Sp 81 [.box 0 0, .ref (Qj a), .ref (Qj b)] (Wy f l) (Quc l r):=by
 have hEa:=Qb a;have hEb:=Qb b;rw [hEa,hEb]at on;rw [hEa,hEb];cases r with
 | none =>
  rw [Xr]at on⊢;unfold Wy Cs Xw at on;unfold Wy Cs Xw;refine eN Tryz.func81 rfl (by decide) rfl rfl ?_;(refine sR fun K hK=>?_;(repeat rw [Qa];simp);refine hK _ _ _ ?_;clear hK K);(refine sR fun K hK=>?_;(repeat rw [Qa];simp));refine cXo [0] false (on) ?_;(rintro o hc ⟨rfl,rfl⟩;refine⟨false,?_⟩;simp [zU]);((try simp only [zs]);refine Qk.pan (.inr ⟨[],by decide,by simp,?_⟩);simp [zM])
 | some v =>
  obtain⟨bb,gg⟩:=v;rw [Xj]at on⊢;unfold Wy Cs at on⊢;refine eN Tryz.func81 rfl (by decide) rfl rfl ?_;(refine sR fun K hK=>?_;(repeat rw [Qa];simp);refine hK _ _ _ ?_;clear hK K);(refine sR fun K hK=>?_;(repeat rw [Qa];simp));refine cXf [0] (on) ?_;simp [zU]
  (repeat rw [Qa];simp)
  (refine hK _ _ _ ?_;clear hK K);(refine Qe ?_;(try simp only [zs]);refine Qk.ret rfl (.inr ⟨[],by decide,by simp,?_⟩);simp [zM])
theorem Qp7(r:Option (Bool×Int)):∃b g e,Wam r= .tuple [.bool b, .int .i64 g, .int .i64 e]:=by
 cases r with
 | none=>exact⟨_,_,_,rfl⟩
 | some v=>exact⟨_,_,_,rfl⟩
theorem Qpy{l:List C}(hcs:okCs l){a b:T}{f:Int}{h:Nat}{r:Option (Bool×Int)}(h0:0<=f)(h1:f<=1073741824)(ha:okP f a)(hb:okP f b)(hr:CR l h [a] [b] f r) :
  Sp 183 [Cs l,Qj a,Qj b, .int .i64 f] [] (rt (Wam r)):=by
 have to:=Qog 209 a b h0 h1 (Qv2 a b (Qjx hcs h a b f r h0 h1 ha hb hr));obtain⟨bb,gg,ee,e⟩:=Qp7 r;rw [e]at to⊢;rw [Qb a,Qb b]at to⊢;unfold Cs at to⊢;refine eN Tryz.func183 rfl (by decide) rfl rfl ?_;(refine sR fun K hK=>?_;(repeat rw [Qa];simp);refine hK _ _ _ ?_;clear hK K);(refine Xe (T:=Qq) 0 (ty:=27) (ds:= [.int .i64 a.k, .int .i64 a.n, .int .i64 a.a, .slice (a.ls.map Qn) .any, .slice (a.ks.map Qj) .any]) rfl rfl (by first | exact⟨rfl, .inr ⟨_,rfl,rfl⟩⟩ | exact⟨rfl, .inl rfl⟩) ?_;simp [D.frzs,D.frz,HO.frz,Qaj,Qao,TK.isAgg,FK.isB,FK.isM,FK.isO,D.isLen]);(refine Xe (T:=Qq) 1 (ty:=27) (ds:= [.int .i64 b.k, .int .i64 b.n, .int .i64 b.a, .slice (b.ls.map Qn) .any, .slice (b.ks.map Qj) .any]) rfl rfl (by first | exact⟨rfl, .inr ⟨_,rfl,rfl⟩⟩ | exact⟨rfl, .inl rfl⟩) ?_;simp [D.frzs,D.frz,HO.frz,Qaj,Qao,TK.isAgg,FK.isB,FK.isM,FK.isO,D.isLen]);(refine sR fun K hK=>?_;(repeat rw [Qa];simp));refine cXr (to) ?_
 (repeat rw [Qa];simp)
 (refine hK _ _ _ ?_;clear hK K);(refine Qe ?_;(try simp only [zs]);refine Qk.ret rfl (.inl ?_);simp [zM])
theorem Qiz{l:List C}(hcs:okCs l){a b:T}{f:Int}{h:Nat}{r:Option (Bool×Int)}(h0:0<=f)(h1:f<=1073741824)(ha:okP f a)(hb:okP f b)(hr:LR l h a b f r) :
  Sp 34 [Cs l,Qj a,Qj b, .int .i64 f] [] (rt (Wam r)):=by
 have to:=Qog 81 a b h0 h1 (Qvh a b (Qx9 hcs hr h0 h1 ha hb));obtain⟨bb,gg,ee,e⟩:=Qp7 r;rw [e]at to⊢;rw [Qb a,Qb b]at to⊢;unfold Cs at to⊢;refine eN Tryz.func34 rfl (by decide) rfl rfl ?_;(refine sR fun K hK=>?_;(repeat rw [Qa];simp);refine hK _ _ _ ?_;clear hK K);(refine Xe (T:=Qq) 0 (ty:=27) (ds:= [.int .i64 a.k, .int .i64 a.n, .int .i64 a.a, .slice (a.ls.map Qn) .any, .slice (a.ks.map Qj) .any]) rfl rfl (by first | exact⟨rfl, .inr ⟨_,rfl,rfl⟩⟩ | exact⟨rfl, .inl rfl⟩) ?_;simp [D.frzs,D.frz,HO.frz,Qaj,Qao,TK.isAgg,FK.isB,FK.isM,FK.isO,D.isLen]);(refine Xe (T:=Qq) 1 (ty:=27) (ds:= [.int .i64 b.k, .int .i64 b.n, .int .i64 b.a, .slice (b.ls.map Qn) .any, .slice (b.ks.map Qj) .any]) rfl rfl (by first | exact⟨rfl, .inr ⟨_,rfl,rfl⟩⟩ | exact⟨rfl, .inl rfl⟩) ?_;simp [D.frzs,D.frz,HO.frz,Qaj,Qao,TK.isAgg,FK.isB,FK.isM,FK.isO,D.isLen]);(refine sR fun K hK=>?_;(repeat rw [Qa];simp));refine cXr (to) ?_
 (repeat rw [Qa];simp)
 (refine hK _ _ _ ?_;clear hK K);(refine Qe ?_;(try simp only [zs]);refine Qk.ret rfl (.inl ?_);simp [zM])
end Go.Proofs.YtgloldepdhgfaaaGreatDoor
namespace Go.Proofs.YtgloldepdhgfaaaGreatDoor
set_option linter.unusedSimpArgs false
set_option linter.unusedVariables false
set_option linter.unusedSimpArgs false
set_option linter.unusedVariables false
set_option maxHeartbeats 10000000
set_option maxRecDepth 20000
open Go.RowKit
attribute [local simp] Qx Qm Qo Qp Wn Xg opD Qz Qr Qw Wi hOf Wj Xf Xd TK.isAgg TK.known Ws Wk Wc Qh D.ofV inB Wb Wp Xx Xz Zg Xc Xv Zh IntKind.min IntKind.max IntKind.signed IntKind.bits Wl Xy
def Wq(e:Int):D:= .iface 33 (.int .i64 e)
def Qcg:List (D×D):= [(.int .i64 1, .fn (.func 166) [] []),(.int .i64 2, .fn (.func 167) [] []),(.int .i64 3, .fn (.func 168) [] []),(.int .i64 4, .fn (.func 169) [] []),(.int .i64 12, .fn (.func 169) [] []),(.int .i64 16, .fn (.func 169) [] []),(.int .i64 5, .fn (.func 170) [] []),(.int .i64 6, .fn (.func 171) [] []),(.int .i64 7, .fn (.func 172) [] []),(.int .i64 14, .fn (.func 173) [] []),(.int .i64 15, .fn (.func 173) [] []),(.int .i64 18, .fn (.func 174) [] []),(.int .i64 19, .fn (.func 175) [] []),(.int .i64 21, .fn (.func 176) [] []),(.int .i64 22, .fn (.func 177) [] []),(.int .i64 23, .fn (.func 178) [] []),(.int .i64 24, .fn (.func 179) [] [])]
@[simp high] theorem rulesE_ok1 (p:Nat ->Bool):D.okNs p (List.map (fun x=>x.fst) Qcg)=true:=rfl
@[simp high] theorem rulesE_ok2 (p:Nat ->Bool):D.okNs p (List.map (fun x=>x.snd) Qcg)=true:=rfl
@[simp high] theorem rulesE_ren (σ:Nat ->Nat):List.map (fun e=>(D.ren σ e.fst,D.ren σ e.snd)) Qcg=Qcg:=rfl
@[simp high] theorem rulesE_frz (bx:FK) (i:Nat) (x:D):List.map (fun p=>(D.frz bx i x p.fst,D.frz bx i x p.snd)) Qcg=Qcg:=rfl
@[simp high] theorem rulesE_low1 (m:Nat):D.lows m (List.map (fun x=>x.fst) Qcg)=true:=rfl
@[simp high] theorem rulesE_low2 (m:Nat):D.lows m (List.map (fun x=>x.snd) Qcg)=true:=rfl
def iO(f:Int)(l:List C)(n:Int):List HO:= [.cells 165 [.int .i64 f,Cs l, .int .i64 n, .map 1], .mp Qcg]
def RP{α:Type}(l:List C)(n:Int)(enc:α ->D):Rs α ->Out ->List HO ->Prop
 | .ok (x,g)=>fun o hc=>o.fgt= .ret (enc x)/\hc=iO g l n
 | .error e=>fun o hc=>o= .pan (Wq e)/\hc= [.dead, .dead]
def RQ{α:Type}(l:List C)(n:Int)(enc:α ->D):Rs α ->Out ->List HO ->Prop
 | .ok (x,g)=>fun o hc=>o.fgt= .ret (enc x)/\hc=iO g l n
 | .error e=>fun o hc=>o= .pan (Wq e)/\(hc= [.dead, .dead]\/∃f,hc=iO f l n)
theorem RP_ok{α:Type}{l:List C}{n:Int}{enc:α ->D}{x:α}{g:Int}:RP l n enc (.ok (x,g))=fun o hc=>o.fgt= .ret (enc x)/\hc=iO g l n:=rfl
theorem RP_err{α:Type}{l:List C}{n:Int}{enc:α ->D}{e:Int}:RP l n enc (.error e)=fun o hc=>o= .pan (Wq e)/\hc= [.dead, .dead]:=rfl
theorem Qn4{α:Type}{l:List C}{n:Int}{enc:α ->D}{r:Rs α}{x:α}{g:Int}(h:r= .ok (x,g)):RQ l n enc r=fun o hc=>o.fgt= .ret (enc x)/\hc=iO g l n:=by rw [h];rfl
theorem Qc5{α:Type}{l:List C}{n:Int}{enc:α ->D}{r:Rs α}{e:Int}(h:r= .error e):RQ l n enc r=fun o hc=>o= .pan (Wq e)/\(hc= [.dead, .dead]\/∃f,hc=iO f l n):=by rw [h];rfl
theorem RP.of{α:Type}{l:List C}{n:Int}{enc:α ->D}{r:Rs α}{P:Program}{G:Nat ->Option D}{fn:FuncId}{args:List D}{objs:List HO}(h:Spec P G fn args objs (RQ l n enc r)):Spec P G fn args objs (RP l n enc r):=by
 refine Spec.dead h fun o hc hp=>?_
 cases r with
 | ok v=>exact⟨hc,fun r=> .inl rfl,hp⟩
 | error e =>
  refine⟨[.dead, .dead],fun r=>?_,hp.1,rfl⟩;rcases hp.2 with rfl | ⟨f,rfl⟩
  ·exact .inl rfl
  ·match r with
   | 0=>exact .inr rfl
   | 1=>exact .inr rfl
   | r+2=>exact .inl rfl
theorem Qbj(e:Int):Sp 113 [.bool true, .int .i64 e] [] (rt (.tuple [])):=by
 refine eN Tryz.func113 rfl (by decide) rfl rfl ?_;(refine sR fun K hK=>?_;(repeat rw [Qa];simp);refine hK _ _ _ ?_;clear hK K);refine pF rfl ?_;refine Qg ?_;((try simp only [zs]);refine Qk.nrm rfl (.inl ?_);simp [zM])
theorem Qba(e:Int):Sp 113 [.bool false, .int .i64 e] [] (fun o _=>o.fgt= .pan (Wq e)):=by
 unfold Wq;refine eN Tryz.func113 rfl (by decide) rfl rfl ?_;(refine sR fun K hK=>?_;(repeat rw [Qa];simp);refine hK _ _ _ ?_;clear hK K);refine pT rfl ?_;(refine Qi Wa ?_;(repeat rw [Qa];simp));((try simp only [zs]);refine Qk.pan (.inl ?_);simp [Out.fgt,D.fgt,D.fgts])
def Qds(m f:Int):Rs Unit:=if m<=f then .ok ((),f - m)else .error 5
def Xb(_:Unit):D:= .tuple []
theorem Qbk{l:List C}{n f m:Int}(h0:0<=m)(h1:f<=9223372036854775807):Sp 118 [.box 0 0, .int .i64 m] (iO f l n) (RP l n Xb (Qds m f)):=by
 refine RP.of ?_;by_cases h:m<=f
 ·rw [Qn4 (show Qds m f= .ok ((),f - m) by unfold Qds;rw [if_pos h])];have mo:=Qbj 5;have hw:IntKind.i64.wrap (f - m)=f - m:=Qbp (by omega) (by omega);unfold iO Cs Xb;refine eN Tryz.func118 rfl (by decide) rfl rfl ?_;(refine sR fun K hK=>?_;(repeat rw [Qa];simp [h]));refine cXp (mo) ?_;(try simp only [zr]);(repeat rw [Qa];simp);(refine hK _ _ _ ?_;clear hK K);(refine Qi Wa ?_;(repeat rw [Qa];simp [hw]));((try simp only [zs]);refine Qk.nrm rfl (.inr ⟨[],by decide,by simp,?_⟩);simp [zM])
 ·rw [Qc5 (show Qds m f= .error 5 by unfold Qds;rw [if_neg h])];have mo:=Qba 5;unfold Wq at mo;unfold iO Cs Wq;refine eN Tryz.func118 rfl (by decide) rfl rfl ?_;(refine sR fun K hK=>?_;(repeat rw [Qa];simp [h]));refine cXp (mo) ?_;(try simp only [zr]);(repeat rw [Qa];simp);((try simp only [zs]);refine Qk.pan (.inr ⟨[],by decide,by simp,?_⟩);simp [zM])
theorem Qhp(t:T)(j:Nat):Sp 125 [Qj t, .int .i64 j] [] (rt (Qj (t.kid j))):=by
 obtain⟨r,hr⟩:∃r,r=t.kid j:=⟨_,rfl⟩;rw [<- hr];rw [Qb t];unfold T.kid at hr;rw [List.getD_eq_getElem?_getD]at hr;refine eN Tryz.func125 rfl (by decide) rfl rfl ?_;(refine sR fun K hK=>?_;(repeat rw [Qa];simp);refine hK _ _ _ ?_;clear hK K);refine Qc fun K1 hK1=>?_
 by_cases h2:j<t.ks.length
 ·have h2':(j:Int)<t.ks.length:=by omega
  have h2n:¬ t.ks.length<=j:=by omega
  rw [List.getElem?_eq_getElem h2,Option.getD_some]at hr;have hEr:=Qb r;have hx:t.ks[j]=r:=hr.symm;(refine sR fun K hK=>?_;(repeat rw [Qa];simp [h2,h2',h2n]);refine hK _ _ _ ?_;clear hK K);refine pF rfl ?_;refine Qg (hK1 _ _ _ ?_);(refine sR fun K hK=>?_;(repeat rw [Qa];simp [h2,h2',hx,hEr]);refine hK _ _ _ ?_;clear hK K);(refine Qe ?_;(try simp only [zs]);refine Qk.ret rfl (.inl ?_);simp [zM]);exact hEr.symm
 ·have h2':¬ (j:Int)<t.ks.length:=by omega
  have h2n:t.ks.length<=j:=by omega
  rw [List.getElem?_eq_none h2n,Option.getD_none]at hr;subst hr;(refine sR fun K hK=>?_;(repeat rw [Qa];simp [h2,h2',h2n]);refine hK _ _ _ ?_;clear hK K);refine pT rfl ?_;(refine sR fun K hK=>?_;(repeat rw [Qa];simp);refine hK _ _ _ ?_;clear hK K);(refine Qe ?_;(try simp only [zs]);refine Qk.ret rfl (.inl ?_);simp [zM]);exact encZ.symm
theorem Ze(k:Int)(ks:List T):Sp 123 [.int .i64 k, .slice (ks.map Qj) .any] [] (rt (Qj (ofT k ks))):=by
 unfold ofT;rw [Qe4];refine eN Tryz.func123 rfl (by decide) rfl rfl ?_;(refine sR fun K hK=>?_;(repeat rw [Qa];simp);refine hK _ _ _ ?_;clear hK K);(refine sR fun K hK=>?_;(repeat rw [Qa];simp);refine hK _ _ _ ?_;clear hK K);(refine Qe ?_;(try simp only [zs]);refine Qk.ret rfl (.inl ?_);simp [zM])
theorem Qno(n:Int):Sp 206 [.int .i64 n] [] (rt (Qj (Qd5 n))):=by
 unfold Qd5;rw [Qe4];refine eN Tryz.func206 rfl (by decide) rfl rfl ?_;(refine sR fun K hK=>?_;(repeat rw [Qa];simp);refine hK _ _ _ ?_;clear hK K);(refine sR fun K hK=>?_;(repeat rw [Qa];simp);refine hK _ _ _ ?_;clear hK K);(refine Qe ?_;(try simp only [zs]);refine Qk.ret rfl (.inl ?_);simp [zM])
theorem Qez(t:T)(n:Int)(ht:okT t)(hd:t.pot<=PM):Sp 78 [Qj t, .int .i64 n] [] (rt (Qj (t.lift n 0 0))):=by
 have hl:=Qbu t n 0 (by have:=t.deep_nsz;have:=Qd2 t;unfold PM at hd;unfold DM;omega) ht;generalize t.lift n 0 0=u at hl⊢;have hEt:=Qb t;have hEu:=Qb u;rw [hEt,hEu]at hl;rw [hEt,hEu];refine eN Tryz.func78 rfl (by decide) rfl rfl ?_;(refine sR fun K hK=>?_;(repeat rw [Qa];simp);refine hK _ _ _ ?_;clear hK K);(refine sR fun K hK=>?_;(repeat rw [Qa];simp));refine cXr (hl) ?_
 (repeat rw [Qa];simp)
 (refine hK _ _ _ ?_;clear hK K);(refine Qe ?_;(try simp only [zs]);refine Qk.ret rfl (.inl ?_);simp [zM])
theorem Qhm(i:LV):Sp 201 [Qn i] [] (rt (Qj (Qiq i))):=by
 have L1:1<=Ql:=by unfold Ql;omega
 unfold Qiq;rw [Qe4];unfold Qn;simp only [List.map_cons,List.map_nil];refine eN Tryz.func201 rfl (by decide) rfl rfl ?_;(refine sR fun K hK=>?_;(repeat rw [Qa];simp);refine hK _ _ _ ?_;clear hK K);(refine sR fun K hK=>?_;(repeat rw [Qa];simp [L1]);refine hK _ _ _ ?_;clear hK K);(refine Qe ?_;(try simp only [zs]);refine Qk.ret rfl (.inl ?_);simp [zM])
theorem Qvb(many:Int)(t:T):∀b,okT t ->Sp 185 [Qj t, .int .i64 many, .int .i64 b] [] (rt (.int .i64 (T.sdw many t b))):=by
 induction t using T.ind with
 | h kk nn aa ls ks ih =>
 intro b ht;have hkl:ks.length<=Ql:=ht.kl;have hks:=ht.ks;simp only [T.ks_mk]at hks;obtain⟨R,hR⟩:∃R,R=T.sdw many (.mk kk nn aa ls ks) b:=⟨_,rfl⟩;rw [<- hR];rw [T.sdw]at hR;rw [Qdy];refine eN Tryz.func185 rfl (by decide) rfl rfl ?_;(refine sR fun K hK=>?_;(repeat rw [Qa];simp);refine hK _ _ _ ?_;clear hK K);by_cases h1:kk=1/\nn=b
 ·obtain⟨rfl,rfl⟩:=h1;rw [if_pos ⟨rfl,rfl⟩]at hR;subst hR;refine Qc fun K1 hK1=>?_
  (refine sR fun K hK=>?_;(repeat rw [Qa];simp);refine hK _ _ _ ?_;clear hK K);refine pT rfl ?_;(refine sR fun K hK=>?_;(repeat rw [Qa];simp);refine hK _ _ _ ?_;clear hK K);(refine Qe ?_;(try simp only [zs]);refine Qk.ret rfl (.inl ?_);simp [zM])
 rw [if_neg h1]at hR;refine Qsh [11,12,13,14,15,16,17,18,19] ([11,12,13,14,15,16,17,18,19].map fun _=> .junk) [.cells 27 [.int .i64 kk, .int .i64 nn, .int .i64 aa, .slice (ls.map Qn) .any, .slice (ks.map Qj) .any]] ?_ ?_
 rotate_left
 ·intro K hK0;by_cases h2:kk=1
  ·subst h2;have h3:¬ nn=b:=fun h=>h1 ⟨rfl,h⟩
   (refine sR fun K hK=>?_;(repeat rw [Qa];simp [h3]);refine hK _ _ _ ?_;clear hK K);refine pF rfl ?_;refine Qg (hK0 _ ?_);simp [leT,Qh]
  ·(refine sR fun K hK=>?_;(repeat rw [Qa];simp [h2]);refine hK _ _ _ ?_;clear hK K);refine pF rfl ?_;refine Qg (hK0 _ ?_);simp [leT,Qh]
 simp only [Qh,List.set,List.map_cons,List.map_nil,List.cons_append,List.nil_append];(refine sR fun K hK=>?_;(repeat rw [Qa];simp);refine hK _ _ _ ?_;clear hK K);refine Qc fun K1 hK1=>?_
 (refine sR fun K hK=>?_;(repeat rw [Qa];simp);refine hK _ _ _ ?_;clear hK K);refine Xm Wa Qf (ti:=3) (tk:=24) (tn:=23) (td:=25) (ts:=42) [8,9,10,24,25,26,27,28,29,30,31,32,33,34,35,36,37,38,39,40,41,42] [7] (ks.length) (fun k ys hl=>∃(s:Int),ys= [.int .i64 s]/\R=T.sdws many kk (ks.drop k) k b s/\hl= [.cells 27 [.int .i64 kk, .int .i64 nn, .int .i64 aa, .slice (ls.map Qn) .any, .slice (ks.map Qj) .any]]) rfl rfl rfl rfl rfl rfl rfl rfl rfl rfl rfl rfl (by simp) (by decide) rfl (by first | assumption | omega | (unfold Ql;omega)) rfl (by kernel_rfl) (by decide) ?_ ?_ ?_
 ·exact⟨1,rfl,hR,rfl⟩
 ·rintro i ys hl A hi ⟨s,rfl,hF,rfl⟩ hA hA2;simp only [Qh,List.set,List.map_cons,List.map_nil,List.cons_append,List.nil_append];have hi':(i:Int)<ks.length:=by omega
  rw [List.drop_eq_getElem_cons hi,T.sdws]at hF;have hrec:=ih ks[i] (List.getElem_mem hi) (Xl b kk i) (hks _ (List.getElem_mem hi));have hbi:=Qgc kk i;have hbd:Xl b kk i=if Qa7 kk i then IntKind.i64.wrap (b+1)else b:=rfl
  obtain⟨x,hx⟩:∃x,ks[i]=x:=⟨_,rfl⟩;rw [hx]at hF hrec;have hEx:=Qb x;rw [hEx]at hrec;generalize T.sdw many x (Xl b kk i)=v at hF hrec;generalize Xl b kk i=b' at hrec hbd;generalize Qa7 kk i=bb at hbi hbd;(refine sR fun K hK=>?_;(repeat rw [Qa];simp [hi,hi',hx,hEx]);refine hK _ _ _ ?_;clear hK K);(refine sR fun K hK=>?_;(repeat rw [Qa];simp);refine hK _ _ _ ?_;clear hK K);refine Qc fun K2 hK2=>?_
  (refine sR fun K hK=>?_;(repeat rw [Qa];simp));refine cXr (hbi) ?_
  (repeat rw [Qa];simp)
  (refine hK _ _ _ ?_;clear hK K);cases bb with
  | true =>
   rw [if_pos rfl]at hbd;subst hbd;refine pT rfl ?_;(refine Qi Wa ?_;(repeat rw [Qa];simp));refine hK2 _ _ _ ?_;(refine Qi Wa ?_;(repeat rw [Qa];simp));refine cXr (hrec) ?_
   (repeat rw [Qa];simp)
   (refine hA2 ([0]) _ _ _ (LeT.refl _) (by decide) (by simp) (by simp [zM,Qh]) ?_ rfl;simp [zM]);exact hF
  | false =>
   rw [if_neg Bool.false_ne_true]at hbd;subst hbd;refine pF rfl ?_;refine Qg (hK2 _ _ _ ?_);(refine Qi Wa ?_;(repeat rw [Qa];simp));refine cXr (hrec) ?_
   (repeat rw [Qa];simp)
   (refine hA2 ([0]) _ _ _ (LeT.refl _) (by decide) (by simp) (by simp [zM,Qh]) ?_ rfl;simp [zM]);exact hF
 ·rintro ys hl tl' ⟨s,rfl,hF,rfl⟩ htl;refine hK1 _ _ _ (Xn htl ?_);simp only [Qh,List.set,List.map_cons,List.map_nil,List.cons_append,List.nil_append];rw [List.drop_length,T.sdws]at hF;subst hF;(refine sR fun K hK=>?_;(repeat rw [Qa];simp);refine hK _ _ _ ?_;clear hK K);(refine Qe ?_;(try simp only [zs]);refine Qk.ret rfl (.inl ?_);simp [zM])
theorem Qv{α:Type}(l:List C)(n:Int)(enc:α ->D)(r:Rs α):(∃x g,r= .ok (x,g)/\RP l n enc r=fun o hc=>o.fgt= .ret (enc x)/\hc=iO g l n)\/∃e,r= .error e/\RP l n enc r=fun o hc=>o= .pan (Wq e)/\hc= [.dead, .dead]:=by
 cases r with
 | ok v=>exact .inl ⟨v.1,v.2,rfl,rfl⟩
 | error e=>exact .inr ⟨e,rfl,rfl⟩
theorem Qkc{l:List C}{n f g:Int}:Sp 127 [.box 0 0, .int .i64 g, .int .i64 0] (iO f l n) (fun o hc=>o= .ret (.tuple [])/\hc=iO g l n):=by
 have mo:=Qbj 0;unfold iO Cs;refine eN Tryz.func127 rfl (by decide) rfl rfl ?_;(refine sR fun K hK=>?_;(repeat rw [Qa];simp);refine hK _ _ _ ?_;clear hK K);(refine Qi Wa ?_;(repeat rw [Qa];simp));refine cXp (mo) ?_;(try simp only [zr]);(repeat rw [Qa];simp);((try simp only [zs]);refine Qk.nrm rfl (.inr ⟨[],by decide,by simp,?_⟩);simp [zM])
theorem Qkd{l:List C}{n f g e:Int}(he:¬ e=0):Sp 127 [.box 0 0, .int .i64 g, .int .i64 e] (iO f l n) (fun o hc=>o= .pan (Wq e)/\hc= [.dead, .dead]):=by
 have mo:=Qba e;unfold Wq at mo
 refine Spec.dead (Post:=fun o hc=>o= .pan (Wq e)/\hc=iO g l n) ?_ fun o hc hp=>⟨[.dead, .dead],fun r=>by
  rw [hp.2]
  match r with
  | 0=>exact .inr rfl
  | 1=>exact .inr rfl
  | r+2=>exact .inl rfl,hp.1,rfl⟩
 unfold iO Cs Wq;refine eN Tryz.func127 rfl (by decide) rfl rfl ?_;(refine sR fun K hK=>?_;(repeat rw [Qa];simp);refine hK _ _ _ ?_;clear hK K);(refine Qi Wa ?_;(repeat rw [Qa];simp [he]));refine cXp (mo) ?_;(try simp only [zr]);(repeat rw [Qa];simp);((try simp only [zs]);refine Qk.pan (.inr ⟨[],by decide,by simp,?_⟩);simp [zM])
theorem Qf6{l:List C}(hk:Kc l){n f:Int}{t:T}(h0:0<=f)(h1:f<=20000)(ht:okY f t):Sp 124 [.box 0 0,Qj t] (iO f l n) (RP l n Qj (hdR l t f)):=by
 have hp:=ht.okP h0 h1;refine RP.of ?_;have hEt:=Qb t;rcases Qns l t h0 with ⟨⟨u,g⟩,e1,H⟩ | ⟨e1,H⟩
 ·rw [Qn4 e1];obtain⟨m,H1,rfl,H2⟩:=H.cost;have wh:=Qsl hk.cs h0 (by omega) hp.1 hp.2 H1 H2;have sp:=Qkc (l:=l) (n:=n) (f:=f) (g:=f - m);generalize f - (m:Int)=g at wh sp;have hEu:=Qb u;rw [hEt,hEu]at wh;rw [hEt,hEu];unfold Cs at wh;unfold iO Cs at sp;unfold iO Cs;refine eN Tryz.func124 rfl (by decide) rfl rfl ?_;(refine sR fun K hK=>?_;(repeat rw [Qa];simp);refine hK _ _ _ ?_;clear hK K);(refine Qc fun K hK=>?_;refine dR fun KT hKT=>?_;(repeat rw [Qd];simp));refine cYp (wh) ?_;(try simp only [zq]);(repeat rw [Qd];simp);(refine hKT _ _ _ _ (by kernel_rfl) ?_;clear hKT KT);(refine hK _ _ _ ?_;clear hK K);(refine sR fun K hK=>?_;(repeat rw [Qa];simp));refine cXo [0,1] false (sp) ?_;(rintro o hc ⟨rfl,rfl⟩;refine⟨false,?_⟩;simp [zU]);(try simp only [zr]);(repeat rw [Qa];simp);(refine hK _ _ _ ?_;clear hK K);(refine sR fun K hK=>?_;(repeat rw [Qa];simp);refine hK _ _ _ ?_;clear hK K);(refine Qe ?_;(try simp only [zs]);refine Qk.ret rfl (.inr ⟨[],by decide,by simp,?_⟩);simp [zM])
 ·rw [Qc5 e1];have wh:Sp 36 [Cs l,Qj t, .int .i64 f] [] (rt (.tuple [Qj Xa, .int .i64 0, .int .i64 5])):=by
   cases H with
   | gone H=>exact Qob hk.cs h0 (by omega) hp.1 hp.2 H
  have sp:=Qkd (l:=l) (n:=n) (f:=f) (g:=0) (e:=5) (by omega);rw [hEt,encZ]at wh;rw [hEt];unfold Cs at wh;unfold iO Cs Wq at sp;unfold iO Cs Wq;refine eN Tryz.func124 rfl (by decide) rfl rfl ?_;(refine sR fun K hK=>?_;(repeat rw [Qa];simp);refine hK _ _ _ ?_;clear hK K);(refine Qc fun K hK=>?_;refine dR fun KT hKT=>?_;(repeat rw [Qd];simp));refine cYp (wh) ?_;(try simp only [zq]);(repeat rw [Qd];simp);(refine hKT _ _ _ _ (by kernel_rfl) ?_;clear hKT KT);(refine hK _ _ _ ?_;clear hK K);(refine sR fun K hK=>?_;(repeat rw [Qa];simp));refine cXo [0,1] false (sp) ?_;(rintro o hc ⟨rfl,rfl⟩;refine⟨false,?_⟩;simp [zU]);((try simp only [zs]);refine Qk.pan (.inr ⟨[],by decide,by simp,?_⟩);simp [zM])
def asD(v:T×T):D:= .tuple [Qj v.1,Qj v.2]
theorem okY.pm{f:Int}{t:T}(h0:0<=f)(h:okY f t):t.pot<=PM:=by have:=h.2;unfold Yb at this;unfold PM;omega
theorem Qan{l:List C}(hk:Kc l){n f k e:Int}{t:T}(h0:0<=f)(h1:f<=20000)(ht:okY f t):Sp 119 [.box 0 0,Qj t, .int .i64 k, .int .i64 e] (iO f l n) (RP l n asD (asR l t k e f)):=by
 refine RP.of ?_;have hh:=Qf6 hk (n:=n) h0 h1 ht;have hEt:=Qb t;rcases Qv l n Qj (hdR l t f)with ⟨x,g,e1,e2⟩ | ⟨e',e1,e2⟩
 ·rw [e2]at hh;have k0:=Qhp x 0;have k1:=Qhp x 1;have hEx:=Qb x;generalize hu:x.kid 0=u at k0;generalize hv:x.kid 1=v at k1;have hEu:=Qb u;have hEv:=Qb v;rw [hEt,hEx]at hh;rw [hEx,hEu]at k0;rw [hEx,hEv]at k1;rw [hEt];by_cases hkk:x.k=k
  ·rw [Qn4 (show asR l t k e f= .ok ((u,v),g) by unfold asR;rw [e1,Rs.next_ok,if_pos hkk,hu,hv])];have mo:=Qbj e;rw [hkk]at k0 k1 hh;unfold asD;dsimp only;rw [hEu,hEv];unfold iO Cs at hh⊢;refine eN Tryz.func119 rfl (by decide) rfl rfl ?_;(refine sR fun K hK=>?_;(repeat rw [Qa];simp);refine hK _ _ _ ?_;clear hK K);(refine sR fun K hK=>?_;(repeat rw [Qa];simp));refine cXf [0,1] (hh) ?_;simp [zU]
   (repeat rw [Qa];simp)
   (refine hK _ _ _ ?_;clear hK K);(refine sR fun K hK=>?_;(repeat rw [Qa];simp));refine cXp (mo) ?_;(try simp only [zr]);(repeat rw [Qa];simp);(refine hK _ _ _ ?_;clear hK K);(refine Qc fun K hK=>?_;refine dR fun KT hKT=>?_;(repeat rw [Qd];simp));refine cYp (k0) ?_;(try simp only [zq]);(repeat rw [Qd];simp);refine cYp (k1) ?_;(try simp only [zq]);(repeat rw [Qd];simp);(refine hKT _ _ _ _ (by kernel_rfl) ?_;clear hKT KT);(refine hK _ _ _ ?_;clear hK K);(refine Qe ?_;(try simp only [zs]);refine Qk.ret rfl (.inr ⟨[],by decide,by simp,?_⟩);simp [zM])
  ·rw [Qc5 (show asR l t k e f= .error e by unfold asR;rw [e1,Rs.next_ok,if_neg hkk])];have mo:=Qba e;unfold iO Cs at hh;unfold Wq at mo;unfold iO Cs Wq;refine eN Tryz.func119 rfl (by decide) rfl rfl ?_;(refine sR fun K hK=>?_;(repeat rw [Qa];simp);refine hK _ _ _ ?_;clear hK K);(refine sR fun K hK=>?_;(repeat rw [Qa];simp));refine cXf [0,1] (hh) ?_;simp [zU]
   (repeat rw [Qa];simp)
   (refine hK _ _ _ ?_;clear hK K);(refine sR fun K hK=>?_;(repeat rw [Qa];simp [hkk]));refine cXp (mo) ?_;(try simp only [zr]);(repeat rw [Qa];simp);((try simp only [zs]);refine Qk.pan (.inr ⟨[],by decide,by simp,?_⟩);simp [zM])
 ·rw [e2]at hh;rw [Qc5 (show asR l t k e f= .error e' by unfold asR;rw [e1,Rs.next_err])];rw [hEt]at hh;rw [hEt];unfold iO Cs Wq at hh;unfold iO Cs Wq;refine eN Tryz.func119 rfl (by decide) rfl rfl ?_;(refine sR fun K hK=>?_;(repeat rw [Qa];simp);refine hK _ _ _ ?_;clear hK K);(refine sR fun K hK=>?_;(repeat rw [Qa];simp));refine cXo [0,1] false (hh) ?_;(rintro o hc ⟨rfl,rfl⟩;refine⟨false,?_⟩;simp [zU]);((try simp only [zs]);refine Qk.pan (.inr ⟨[],by decide,by simp,?_⟩);simp [zM])
theorem Qbw{l:List C}(hk:Kc l){n f e:Int}{a b:T}(h0:0<=f)(h1:f<=20000)(ha:okY f a)(hb:okY f b):Sp 120 [.box 0 0,Qj a,Qj b, .int .i64 e] (iO f l n) (RP l n Xb (oneR l a b e f)):=by
 refine RP.of ?_;have hEa:=Qb a;have hEb:=Qb b;rcases Qty l a b h0 with ⟨⟨is,g⟩,q,e1,H⟩ | ⟨q,e1,H⟩
 ·have cv:=Qpy hk.cs h0 (by omega) (ha.okP h0 h1) (hb.okP h0 h1) H;have sp:=Qkc (l:=l) (n:=n) (f:=f) (g:=g);unfold Wam at cv;rw [hEa,hEb]at cv;rw [hEa,hEb];unfold Cs at cv;unfold iO Cs at sp;cases is with
  | true =>
   rw [Qn4 (show oneR l a b e f= .ok ((),g) by unfold oneR;rw [e1,Rs.next_ok,if_pos rfl])];have mo:=Qbj e;unfold iO Cs Xb;refine eN Tryz.func120 rfl (by decide) rfl rfl ?_;(refine sR fun K hK=>?_;(repeat rw [Qa];simp);refine hK _ _ _ ?_;clear hK K);(refine Qc fun K hK=>?_;refine dR fun KT hKT=>?_;(repeat rw [Qd];simp));refine cYp (cv) ?_;(try simp only [zq]);(repeat rw [Qd];simp);(refine hKT _ _ _ _ (by kernel_rfl) ?_;clear hKT KT);(refine hK _ _ _ ?_;clear hK K);(refine sR fun K hK=>?_;(repeat rw [Qa];simp));refine cXo [0,1] false (sp) ?_;(rintro o hc ⟨rfl,rfl⟩;refine⟨false,?_⟩;simp [zU]);(try simp only [zr]);(repeat rw [Qa];simp);(refine hK _ _ _ ?_;clear hK K);(refine Qi Wa ?_;(repeat rw [Qa];simp));refine cXp (mo) ?_;(try simp only [zr]);(repeat rw [Qa];simp);((try simp only [zs]);refine Qk.nrm rfl (.inr ⟨[],by decide,by simp,?_⟩);simp [zM])
  | false =>
   rw [Qc5 (show oneR l a b e f= .error e by unfold oneR;rw [e1,Rs.next_ok,if_neg (by simp)])];have mo:=Qba e;unfold Wq at mo;unfold iO Cs Wq;refine eN Tryz.func120 rfl (by decide) rfl rfl ?_;(refine sR fun K hK=>?_;(repeat rw [Qa];simp);refine hK _ _ _ ?_;clear hK K);(refine Qc fun K hK=>?_;refine dR fun KT hKT=>?_;(repeat rw [Qd];simp));refine cYp (cv) ?_;(try simp only [zq]);(repeat rw [Qd];simp);(refine hKT _ _ _ _ (by kernel_rfl) ?_;clear hKT KT);(refine hK _ _ _ ?_;clear hK K);(refine sR fun K hK=>?_;(repeat rw [Qa];simp));refine cXo [0,1] false (sp) ?_;(rintro o hc ⟨rfl,rfl⟩;refine⟨false,?_⟩;simp [zU]);(try simp only [zr]);(repeat rw [Qa];simp);(refine hK _ _ _ ?_;clear hK K);(refine Qi Wa ?_;(repeat rw [Qa];simp));refine cXp (mo) ?_;(try simp only [zr]);(repeat rw [Qa];simp);((try simp only [zs]);refine Qk.pan (.inr ⟨[],by decide,by simp,?_⟩);simp [zM])
 ·have cv:=Qpy hk.cs h0 (by omega) (ha.okP h0 h1) (hb.okP h0 h1) H;have sp:=Qkd (l:=l) (n:=n) (f:=f) (g:=0) (e:=5) (by omega);rw [Qc5 (show oneR l a b e f= .error 5 by unfold oneR;rw [e1,Rs.next_err])];unfold Wam at cv;rw [hEa,hEb]at cv;rw [hEa,hEb];unfold Cs at cv;unfold iO Cs Wq at sp;unfold iO Cs Wq;refine eN Tryz.func120 rfl (by decide) rfl rfl ?_;(refine sR fun K hK=>?_;(repeat rw [Qa];simp);refine hK _ _ _ ?_;clear hK K);(refine Qc fun K hK=>?_;refine dR fun KT hKT=>?_;(repeat rw [Qd];simp));refine cYp (cv) ?_;(try simp only [zq]);(repeat rw [Qd];simp);(refine hKT _ _ _ _ (by kernel_rfl) ?_;clear hKT KT);(refine hK _ _ _ ?_;clear hK K);(refine sR fun K hK=>?_;(repeat rw [Qa];simp));refine cXo [0,1] false (sp) ?_;(rintro o hc ⟨rfl,rfl⟩;refine⟨false,?_⟩;simp [zU]);((try simp only [zs]);refine Qk.pan (.inr ⟨[],by decide,by simp,?_⟩);simp [zM])
theorem Qbv{l:List C}{n f:Int}{t a:T}(h1:f<=20000)(ht:okS t)(ha:okS a):Sp 122 [.box 0 0,Qj t,Qj a] (iO f l n) (RP l n Qj (Qqc t a f)):=by
 refine RP.of ?_;have hb:((t.sd a.nsz 0:Nat):Int)<=9223372036854775807:=Int.le_trans (ht.sd ha) (by omega);have s1:=Qg7 a ha.1;have s2:=Qvb a.sz t 0 ht.1;rw [Qmt a]at s1 s2;rw [Qm1,Qbp (n:=((t.sd a.nsz 0:Nat):Int)) (by omega) hb]at s2;have hp:=Qjv t [a] (by unfold Ql;simp) (fun b hb=>by rw [Qgp hb];exact⟨ha.1,ha.deep⟩) ht.deep ht.1;have bu:=Qbk (l:=l) (n:=n) (f:=f) (m:=((t.sd a.nsz 0:Nat):Int)) (by omega) (by omega);have hpr:Qqc t a f=if((t.sd a.nsz 0:Nat):Int)<=f then .ok (t.put [a] 0,f - (t.sd a.nsz 0:Nat))else .error 5:=rfl
 have hbr:Qds ((t.sd a.nsz 0:Nat):Int) f=if((t.sd a.nsz 0:Nat):Int)<=f then .ok ((),f - (t.sd a.nsz 0:Nat))else .error 5:=rfl
 have hEt:=Qb t;have hEa:=Qb a;have L1:1<=Ql:=by unfold Ql;omega
 generalize ((t.sd a.nsz 0:Nat):Int)=c at s2 bu hpr hbr;generalize t.put [a] 0=r at hp hpr;have hEr:=Qb r;unfold Ts at hp;simp only [List.map_cons,List.map_nil]at hp;rw [hEt,hEa,hEr]at hp;rw [hEa]at s1;rw [hEt]at s2;rw [hEt,hEa];by_cases hc:c<=f
 ·rw [if_pos hc]at hpr hbr;rw [Qn4 hpr,hEr];rw [hbr,RP_ok]at bu;unfold Xb iO Cs at bu;unfold iO Cs;refine eN Tryz.func122 rfl (by decide) rfl rfl ?_;(refine sR fun K hK=>?_;(repeat rw [Qa];simp);refine hK _ _ _ ?_;clear hK K);(refine Qc fun K hK=>?_;refine dR fun KT hKT=>?_;(repeat rw [Qd];simp));refine cYp (s1) ?_;(try simp only [zq]);(repeat rw [Qd];simp);refine cYp (s2) ?_;(try simp only [zq]);(repeat rw [Qd];simp);refine cYo [0,1] true true (bu) (fun o h e=>e) ?_;simp [zU];(try simp only [zq]);(repeat rw [Qd];simp);(refine hKT _ _ _ _ (by kernel_rfl) ?_;clear hKT KT);(refine hK _ _ _ ?_;clear hK K);(refine sR fun K hK=>?_;(repeat rw [Qa];simp [L1]));refine cXr (hp) ?_
  (repeat rw [Qa];simp)
  (refine hK _ _ _ ?_;clear hK K);(refine Qe ?_;(try simp only [zs]);refine Qk.ret rfl (.inr ⟨[],by decide,by simp,?_⟩);simp [zM])
 ·rw [if_neg hc]at hpr hbr;rw [Qc5 hpr];rw [hbr,RP_err]at bu;unfold iO Cs Wq at bu;unfold iO Cs Wq;refine eN Tryz.func122 rfl (by decide) rfl rfl ?_;(refine sR fun K hK=>?_;(repeat rw [Qa];simp);refine hK _ _ _ ?_;clear hK K);(refine Qc fun K hK=>?_;refine dR fun KT hKT=>?_;(repeat rw [Qd];simp));refine cYp (s1) ?_;(try simp only [zq]);(repeat rw [Qd];simp);refine cYp (s2) ?_;(try simp only [zq]);(repeat rw [Qd];simp);refine cYo [0,1] true false (bu) (fun o h e=>e) ?_;simp [zU];((try simp only [Qt,Qu,Qr,Qw,Wi]);(repeat(refine Wr _ _ _ _ (by kernel_rfl) ?_;simp only [Qr,List.set,List.nil_append,List.cons_append,Nat.reduceAdd]));(try simp only [Qm]));(refine hKT _ _ _ _ (by kernel_rfl) ?_;clear hKT KT);simp [Xi];((try simp only [zs]);refine Qk.pan (.inr ⟨[],by decide,by simp,?_⟩);simp [zM])
theorem Qcl{l:List C}(hk:Kc l){n f:Int}{t:T}(h0:0<=f)(h1:f<=20000)(ht:okY f t):Sp 116 [.box 0 0,Qj t] (iO f l n) (RP l n Qn (lvR l t f)):=by
 refine RP.of ?_;have hh:=Qf6 hk (n:=n) h0 h1 ht;have hEt:=Qb t;rcases Qv l n Qj (hdR l t f)with ⟨x,g,e1,e2⟩ | ⟨e',e1,e2⟩
 ·rw [e2]at hh;have hEx:=Qb x;rw [hEt,hEx]at hh;rw [hEt];unfold iO Cs at hh;by_cases hkk:x.k=2
  ·by_cases hl1:x.ls.length=1
   ·obtain⟨i,hi⟩:=List.length_eq_one_iff.1 hl1;rw [Qn4 (show lvR l t f= .ok (i,g) by unfold lvR;rw [e1,Rs.next_ok,if_pos ⟨hkk,hl1⟩,hi];rfl)];have mo:=Qbj 7;rw [hi]at hh;simp only [List.map_cons,List.map_nil]at hh;unfold iO Cs;rw [show Qn i= .agg [.slice (i.map Wv) .any] from rfl]at hh⊢;refine eN Tryz.func116 rfl (by decide) rfl rfl ?_;(refine sR fun K hK=>?_;(repeat rw [Qa];simp);refine hK _ _ _ ?_;clear hK K);(refine sR fun K hK=>?_;(repeat rw [Qa];simp));refine cXf [0,1] (hh) ?_;simp [zU]
    (repeat rw [Qa];simp)
    (refine hK _ _ _ ?_;clear hK K);(refine sR fun K hK=>?_;(repeat rw [Qa];simp [hkk]));refine cXp (mo) ?_;(try simp only [zr]);(repeat rw [Qa];simp);(refine hK _ _ _ ?_;clear hK K);(refine sR fun K hK=>?_;(repeat rw [Qa];simp);refine hK _ _ _ ?_;clear hK K);(refine Qe ?_;(try simp only [zs]);refine Qk.ret rfl (.inr ⟨[],by decide,by simp,?_⟩);simp [zM])
   ·rw [Qc5 (show lvR l t f= .error 7 by unfold lvR;rw [e1,Rs.next_ok,if_neg (fun h=>hl1 h.2)])];have hl2:¬ (x.ls.length:Int)=1:=by omega
    have mo:=Qba 7;unfold Wq at mo;unfold iO Cs Wq;refine eN Tryz.func116 rfl (by decide) rfl rfl ?_;(refine sR fun K hK=>?_;(repeat rw [Qa];simp);refine hK _ _ _ ?_;clear hK K);(refine sR fun K hK=>?_;(repeat rw [Qa];simp));refine cXf [0,1] (hh) ?_;simp [zU]
    (repeat rw [Qa];simp)
    (refine hK _ _ _ ?_;clear hK K);(refine sR fun K hK=>?_;(repeat rw [Qa];simp [hkk,hl1,hl2]));refine cXp (mo) ?_;(try simp only [zr]);(repeat rw [Qa];simp);((try simp only [zs]);refine Qk.pan (.inr ⟨[],by decide,by simp,?_⟩);simp [zM])
  ·rw [Qc5 (show lvR l t f= .error 7 by unfold lvR;rw [e1,Rs.next_ok,if_neg (fun h=>hkk h.1)])];have mo:=Qba 7;unfold Wq at mo;unfold iO Cs Wq;refine eN Tryz.func116 rfl (by decide) rfl rfl ?_;(refine sR fun K hK=>?_;(repeat rw [Qa];simp);refine hK _ _ _ ?_;clear hK K);(refine sR fun K hK=>?_;(repeat rw [Qa];simp));refine cXf [0,1] (hh) ?_;simp [zU]
   (repeat rw [Qa];simp)
   (refine hK _ _ _ ?_;clear hK K);(refine sR fun K hK=>?_;(repeat rw [Qa];simp [hkk]));refine cXp (mo) ?_;(try simp only [zr]);(repeat rw [Qa];simp);((try simp only [zs]);refine Qk.pan (.inr ⟨[],by decide,by simp,?_⟩);simp [zM])
 ·rw [e2]at hh;rw [Qc5 (show lvR l t f= .error e' by unfold lvR;rw [e1,Rs.next_err])];rw [hEt]at hh;rw [hEt];unfold iO Cs Wq at hh;unfold iO Cs Wq;refine eN Tryz.func116 rfl (by decide) rfl rfl ?_;(refine sR fun K hK=>?_;(repeat rw [Qa];simp);refine hK _ _ _ ?_;clear hK K);(refine sR fun K hK=>?_;(repeat rw [Qa];simp));refine cXo [0,1] false (hh) ?_;(rintro o hc ⟨rfl,rfl⟩;refine⟨false,?_⟩;simp [zU]);((try simp only [zs]);refine Qk.pan (.inr ⟨[],by decide,by simp,?_⟩);simp [zM])
theorem Qy8(m:Int)(h0:0<m)(h1:m<=1000001):Sp 210 [.slice [] .full, .int .i64 m] [] (fun o hc=>o= .ret (.own 0 0)/\hc= [.row 5 []]):=by
 have hm0:¬ m<0:=by omega
 have hw:IntKind.i64.wrap m=m:=Qbp (by omega) (by omega);have hw0:IntKind.i64.wrap 0=0:=by decide
 have hle:0<=m:=by omega
 have hle2:m<=274877906944:=by omega
 refine eN Tryz.func210 rfl (by decide) rfl rfl ?_;(refine sR fun K hK=>?_;(repeat rw [Qa];simp);refine hK _ _ _ ?_;clear hK K);refine Qc fun K1 hK1=>?_
 (refine sR fun K hK=>?_;(repeat rw [Qa];simp [hm0]);refine hK _ _ _ ?_;clear hK K);refine pF rfl ?_;refine Qg (hK1 _ _ _ ?_);clear hK1 K1;refine Qc fun K1 hK1=>?_
 (refine sR fun K hK=>?_;(repeat rw [Qa];simp [hw,hw0]);refine hK _ _ _ ?_;clear hK K);(refine sR fun K hK=>?_;(repeat rw [Qa];simp [h0,hw,hw0]);refine hK _ _ _ ?_;clear hK K);refine pT rfl ?_;(refine Qi Wa ?_;(repeat rw [Qa];simp [hle,hle2,hw,hw0,Cp.isFull]));refine hK1 _ _ _ ?_;clear hK1 K1;(refine sR fun K hK=>?_;(repeat rw [Qa];simp);refine hK _ _ _ ?_;clear hK K);(refine Qe ?_;(try simp only [zs]);refine Qk.ret rfl (.inr ⟨[0],by decide,by simp,?_⟩);simp [zM])
def Qn6(c:List T)(x:T)(k:Nat):List T:=if k=0 then [] else if k=1 then c else c++ [x]
theorem Qr2(c:List T)(x:T)(hc:c.length<=1000000):Sp 184 [.slice [Ts c,Ts [x]] .any] [] (rt (Ts (c++ [x]))):=by
 have gr:=Qy8 ((c.length:Int)+1) (by omega) (by omega);have L1:c.length+1<=Ql:=by unfold Ql;omega
 have L2:c.length<=Ql:=by unfold Ql;omega
 have hw1:IntKind.i64.wrap (0+(c.length:Int))=c.length:=by rw [Qbp (by omega) (by omega)];omega
 have hw2:IntKind.i64.wrap ((c.length:Int)+1)=(c.length:Int)+1:=Qbp (by omega) (by omega);have hw3:IntKind.i64.wrap (c.length:Int)=c.length:=Qbp (by omega) (by omega);have hn1:¬ (c.length:Int)<0:=by omega
 have hn2:¬ (c.length:Int)+1<0:=by omega
 have hsz:∀y:T,(Qj y).size=5:=fun y=>by rw [Qb];rfl
 unfold Ts;simp only [List.map_append,List.map_cons,List.map_nil];refine eN Tryz.func184 rfl (by decide) rfl rfl ?_;(refine sR fun K hK=>?_;(repeat rw [Qa];simp);refine hK _ _ _ ?_;clear hK K);(refine sR fun K hK=>?_;(repeat rw [Qa];simp);refine hK _ _ _ ?_;clear hK K);refine Qc fun K1 hK1=>?_
 (refine sR fun K hK=>?_;(repeat rw [Qa];simp);refine hK _ _ _ ?_;clear hK K);refine Xm Wa Qf (ti:=3) (tk:=11) (tn:=10) (td:=12) (ts:=22) [5,11,12,13,14,15,16,17,18,19,20,21,22] [3] (2) (fun k ys hl=>ys= [.int .i64 ((Qn6 c x k).length:Nat)]/\hl= []) rfl rfl rfl rfl rfl rfl rfl rfl rfl rfl rfl rfl (by simp) (by decide) rfl (by first | assumption | omega | (unfold Ql;omega)) rfl (by kernel_rfl) (by decide) ?_ ?_ ?_
 ·exact⟨rfl,rfl⟩
 ·rintro i ys hl A hi ⟨rfl,rfl⟩ hA hA2;simp only [Qh,List.set,List.map_cons,List.map_nil,List.cons_append,List.nil_append];have hi2:i=0\/i=1:=by omega
  rcases hi2 with rfl | rfl
  ·simp only [show(Qn6 c x 0).length=0 from rfl];(refine sR fun K hK=>?_;(repeat rw [Qa];simp);refine hK _ _ _ ?_;clear hK K);(refine sR fun K hK=>?_;(repeat rw [Qa];simp [hw1,hw3]);refine hK _ _ _ ?_;clear hK K);(refine sR fun K hK=>?_;(repeat rw [Qa];simp [hn1]);refine hK _ _ _ ?_;clear hK K);refine pF rfl ?_;refine Qg ?_;(refine hA2 ([]) _ _ _ (LeT.refl _) (by decide) (by simp) (by simp [zM,Qh]) ?_ rfl;simp [zM]);rfl
  ·simp only [show(Qn6 c x 1).length=c.length from rfl];(refine sR fun K hK=>?_;(repeat rw [Qa];simp);refine hK _ _ _ ?_;clear hK K);(refine sR fun K hK=>?_;(repeat rw [Qa];simp [hw2]);refine hK _ _ _ ?_;clear hK K);(refine sR fun K hK=>?_;(repeat rw [Qa];simp [hn2]);refine hK _ _ _ ?_;clear hK K);refine pF rfl ?_;refine Qg ?_;(refine hA2 ([]) _ _ _ (LeT.refl _) (by decide) (by simp) (by simp [zM,Qh]) ?_ rfl;simp [zM]);simp [Qn6]
 ·rintro ys hl tl' ⟨rfl,rfl⟩ htl;refine hK1 _ _ _ (Xn htl ?_);simp only [Qh,List.set,List.map_cons,List.map_nil,List.cons_append,List.nil_append];clear hK1 K1;simp only [show(Qn6 c x 2).length=c.length+1 by simp [Qn6]];(refine sR fun K hK=>?_;(repeat rw [Qa];simp));refine cXo [] false (gr) ?_;(rintro o hc ⟨rfl,rfl⟩;refine⟨false,?_⟩;simp [zU]);(try simp only [zr]);(repeat rw [Qa];simp);(refine hK _ _ _ ?_;clear hK K);(refine Qwk [24] ?_;simp only [Qh,List.set,List.map_cons,List.map_nil]);refine Qc fun K1 hK1=>?_
  (refine sR fun K hK=>?_;(repeat rw [Qa];simp);refine hK _ _ _ ?_;clear hK K);refine Xm Wa Qf (ti:=3) (tk:=27) (tn:=26) (td:=28) (ts:=34) [8,27,28,29,30,31,32,33,34] [6] (2) (fun k ys hl=>ys= [.own 0 (Qn6 c x k).length]/\hl= [.row 5 ((Qn6 c x k).map Qj)]) rfl rfl rfl rfl rfl rfl rfl rfl rfl rfl rfl rfl (by simp) (by decide) rfl (by first | assumption | omega | (unfold Ql;omega)) rfl (by kernel_rfl) (by decide) ?_ ?_ ?_
  ·exact⟨rfl,rfl⟩
  ·rintro i ys hl A hi ⟨rfl,rfl⟩ hA hA2;simp only [Qh,List.set,List.map_cons,List.map_nil,List.cons_append,List.nil_append];have hi2:i=0\/i=1:=by omega
   rcases hi2 with rfl | rfl
   ·simp only [show(Qn6 c x 0).length=0 from rfl,show Qn6 c x 0= [] from rfl,List.map_nil];(refine sR fun K hK=>?_;(repeat rw [Qa];simp);refine hK _ _ _ ?_;clear hK K);(refine Qi Wa ?_;(repeat rw [Qa];simp [L2,hsz]));(refine hA2 ([1]) _ _ _ (LeT.refl _) (by decide) (by simp) (by simp [zM,Qh]) ?_ rfl;simp [zM]);simp [Qn6]
   ·simp only [show(Qn6 c x 1).length=c.length from rfl,show Qn6 c x 1=c from rfl];(refine sR fun K hK=>?_;(repeat rw [Qa];simp);refine hK _ _ _ ?_;clear hK K);(refine Qi Wa ?_;(repeat rw [Qa];simp [L1,hsz]));(refine hA2 ([1]) _ _ _ (LeT.refl _) (by decide) (by simp) (by simp [zM,Qh]) ?_ rfl;simp [zM]);simp [Qn6]
  ·rintro ys hl tl' ⟨rfl,rfl⟩ htl;refine hK1 _ _ _ (Xn htl ?_);simp only [Qh,List.set,List.map_cons,List.map_nil,List.cons_append,List.nil_append];simp only [show(Qn6 c x 2).length=c.length+1 by simp [Qn6],show(Qn6 c x 2).map Qj=c.map Qj++ [Qj x] by simp [Qn6]];(refine sR fun K hK=>?_;(repeat rw [Qa];simp);refine hK _ _ _ ?_;clear hK K);have hlen:(c.map Qj++ [Qj x]).length=c.length+1:=by simp
   (refine Qd4 0 rfl ?_;simp [D.frzs,D.frz,HO.frz,Qaj,FK.isB,FK.isM,FK.isO,D.isLen]);(refine Qe ?_;(try simp only [zs]);refine Qk.ret rfl (.inl ?_);simp [zM])
theorem Qe0(c:List T)(x:T)(hc:c.length<=1000000):Sp 121 [Ts c,Ts [x]] [] (rt (Ts (c++ [x]))):=by
 have cs:=Qr2 c x hc;have L2:2<=Ql:=by unfold Ql;omega
 have hEx:=Qb x;unfold Ts at cs⊢;obtain⟨r,hr⟩:∃r,c++ [x]=r:=⟨_,rfl⟩;rw [hr]at cs⊢;simp only [List.map_cons,List.map_nil]at cs⊢;refine eN Tryz.func121 rfl (by decide) rfl rfl ?_;(refine sR fun K hK=>?_;(repeat rw [Qa];simp);refine hK _ _ _ ?_;clear hK K);(refine sR fun K hK=>?_;(repeat rw [Qa];simp [L2]));refine cXr (cs) ?_
 (repeat rw [Qa];simp)
 (refine hK _ _ _ ?_;clear hK K);(refine Qe ?_;(try simp only [zs]);refine Qk.ret rfl (.inl ?_);simp [zM])
section
def IS(l:List C)(n:Int)(I:List T ->T ->Int ->Rs T)(F:Int):Prop:=∀c t f,0<=f ->f<=F ->Sub n (l.map C.lv) c t ->Cx c f ->Sp 79 [.box 0 0,Ts c,Qj t] (iO f l n) (RP l n Qj (I c t f))
def KS(l:List C)(n:Int)(K:List T ->T ->T ->Int ->Rs Unit)(F:Int):Prop:=∀c t y f,0<=f ->f<=F ->Sub n (l.map C.lv) c t ->Cx c f ->okY f y ->Sp 68 [.box 0 0,Ts c,Qj t,Qj y] (iO f l n) (RP l n Xb (K c t y f))
theorem Qbd{α:Type}{l:List C}{n:Int}{enc:α ->D}{r:Rs α}(x:α){g:Int}(h:r= .ok (x,g)):RQ l n enc r=fun o hc=>o.fgt= .ret (enc x)/\hc= [.cells 165 [.int .i64 g, .slice (l.map Qbn) .any, .int .i64 n, .map 1], .mp Qcg]:=by rw [h];rfl
theorem Wh{α:Type}{l:List C}{n:Int}{enc:α ->D}{r:Rs α}{e:Int}(h:r= .error e):RQ l n enc r=fun o hc=>o= .pan (.iface 33 (.int .i64 e))/\(hc= [.dead, .dead]\/∃f,hc= [.cells 165 [.int .i64 f, .slice (l.map Qbn) .any, .int .i64 n, .map 1], .mp Qcg]):=by rw [h];rfl
theorem Wdz{l:List T}(h:l.length=1):∃a,l= [a]:=List.length_eq_one_iff.1 h
theorem Ql2{l:List T}(h:l.length=2):∃a b,l= [a,b]:=by
 match l,h with
 | [a,b],_=>exact⟨a,b,rfl⟩
theorem Wdy{l:List T}(h:l.length=3):∃a b c,l= [a,b,c]:=by
 match l,h with
 | [a,b,c],_=>exact⟨a,b,c,rfl⟩
theorem list_5{l:List T}(h:l.length=5):∃a b c d e,l= [a,b,c,d,e]:=by
 match l,h with
 | [a,b,c,d,e],_=>exact⟨a,b,c,d,e,rfl⟩
theorem list_6{l:List T}(h:l.length=6):∃a b c d e g,l= [a,b,c,d,e,g]:=by
 match l,h with
 | [a,b,c,d,e,g],_=>exact⟨a,b,c,d,e,g,rfl⟩
theorem Zd{l:List C}{n F:Int}{I:List T ->T ->Int ->Rs T}{J:List T ->T ->T ->Int ->Rs Unit}(hk:Kc l)(hF:F<=20000)(bI:IB l n I)(bJ:KB l n J)(hI:IS l n I F)(hJ:KS l n J F){c:List T}{t:T}{f:Int}(h0:0<=f)(h1:f<=F)(hs:Sub n (l.map C.lv) c t)(hc:Cx c f) :
  Sp 65 [.box 0 0,Ts c,Qj t] (iO f l n) (RP l n Qn (sortR l I c t f)):=by
 have h2:f<=20000:=by omega
 have hcl:=hc.len;have hcc:c.length<=1000000:=by omega
 have hEt:=Qb t;refine RP.of ?_;generalize hQ:RQ l n Qn (sortR l I c t f)=Q;rw [hEt];unfold iO Cs Ts;refine eN Tryz.func65 rfl (by decide) rfl rfl ?_;(refine sR fun K hK=>?_;(repeat rw [Qa];simp);refine hK _ _ _ ?_;clear hK K);(refine sR fun K hK=>?_;(repeat rw [Qa];simp));rcases Qv l n Qj (I c t f)with ⟨s,f1,e1,q1⟩ | ⟨ee,e1,q1⟩
 rotate_left
 ·have hh:=hI c t f h0 h1 hs hc;rw [q1]at hh;have hq:=hQ.symm.trans (Wh (e:=ee) (by simp only [e1,Rs.next_ok,Rs.next_err,↓reduceIte,sortR]));subst hq;clear hQ;simp only [hEt]at hh;unfold iO Cs Wq at hh
  try unfold Ts at hh
  refine cXg [0,1] (hh) ?_;simp [zU];((try simp only [zs]);refine Qk.pan (.inr ⟨[],by decide,by simp,?_⟩);simp [zM])
 have cc1:=hI c t f h0 h1 hs hc;rw [q1]at cc1;obtain⟨a1,b1,d1⟩:=bI _ _ _ _ _ h0 h2 hs hc e1;have hEs:=Qb s;simp only [hEt,hEs]at cc1;unfold iO Cs at cc1
 try unfold Ts at cc1
 refine cXf [0,1] (cc1) ?_;simp [zU]
 (repeat rw [Qa];simp)
 clear cc1 q1;rcases Qv l n Qn (lvR l s f1)with ⟨i,f2,e2,q2⟩ | ⟨ee,e2,q2⟩
 rotate_left
 ·have hh:=Qcl hk (n:=n) a1 (by omega) (d1.okY (by omega));rw [q2]at hh;have hq:=hQ.symm.trans (Wh (e:=ee) (by simp only [e1,e2,Rs.next_ok,Rs.next_err,↓reduceIte,sortR]));subst hq;clear hQ;simp only [hEs]at hh;unfold iO Cs Wq at hh
  try unfold Ts at hh
  refine cXg [0,1] (hh) ?_;simp [zU];((try simp only [zs]);refine Qk.pan (.inr ⟨[],by decide,by simp,?_⟩);simp [zM])
 have cc2:=Qcl hk (n:=n) a1 (by omega) (d1.okY (by omega));rw [q2]at cc2;have hEi:Qn i= .agg [.slice (i.map Wv) .any]:=rfl;simp only [hEs,hEi]at cc2;unfold iO Cs at cc2
 try unfold Ts at cc2
 skip
 refine cXf [0,1] (cc2) ?_;simp [zU]
 (repeat rw [Qa];simp)
 clear cc2 q2;have hq:=hQ.symm.trans (Qbd (i) (g:=f2) (by simp only [e1,e2,Rs.next_ok,Rs.next_err,↓reduceIte,sortR]));simp only [hEi]at hq;subst hq;clear hQ;(refine hK _ _ _ ?_;clear hK K);(refine Qe ?_;(try simp only [zs]);refine Qk.ret rfl (.inr ⟨[],by decide,by simp,?_⟩);simp [zM])
theorem Qdw{l:List C}{n F:Int}{I:List T ->T ->Int ->Rs T}{J:List T ->T ->T ->Int ->Rs Unit}(hk:Kc l)(hF:F<=20000)(bI:IB l n I)(bJ:KB l n J)(hI:IS l n I F)(hJ:KS l n J F){c:List T}{t y:T}{f:Int}(h0:0<=f)(h1:f<=F)(hs:Sub n (l.map C.lv) c t)(hc:Cx c f)(hy:okY f y) :
  Sp 204 [.box 0 0,Ts c,Qj t,Qj y] (iO f l n) (RP l n Xb (motiveR l I c t y f)):=by
 have h2:f<=20000:=by omega
 have hcl:=hc.len;have hcc:c.length<=1000000:=by omega
 have hEt:=Qb t;have hEy:=Qb y;refine RP.of ?_;generalize hQ:RQ l n Xb (motiveR l I c t y f)=Q;rw [hEt,hEy];unfold iO Cs Ts;refine eN Tryz.func204 rfl (by decide) rfl rfl ?_;(refine sR fun K hK=>?_;(repeat rw [Qa];simp);refine hK _ _ _ ?_;clear hK K);(refine sR fun K hK=>?_;(repeat rw [Qa];simp));rcases Qv l n Qj (I c t f)with ⟨s,f1,e1,q1⟩ | ⟨ee,e1,q1⟩
 rotate_left
 ·have hh:=hI c t f h0 h1 hs hc;rw [q1]at hh;have hq:=hQ.symm.trans (Wh (e:=ee) (by simp only [e1,Rs.next_ok,Rs.next_err,↓reduceIte,motiveR]));subst hq;clear hQ;simp only [hEt]at hh;unfold iO Cs Wq at hh
  try unfold Ts at hh
  refine cXg [0,1] (hh) ?_;simp [zU];((try simp only [zs]);refine Qk.pan (.inr ⟨[],by decide,by simp,?_⟩);simp [zM])
 have cc1:=hI c t f h0 h1 hs hc;rw [q1]at cc1;obtain⟨a1,b1,d1⟩:=bI _ _ _ _ _ h0 h2 hs hc e1;have hEs:=Qb s;simp only [hEt,hEs]at cc1;unfold iO Cs at cc1
 try unfold Ts at cc1
 refine cXf [0,1] (cc1) ?_;simp [zU]
 (repeat rw [Qa];simp)
 clear cc1 q1;rcases Qv l n asD (asR l s 4 8 f1)with ⟨v,f2,e2,q2⟩ | ⟨ee,e2,q2⟩
 rotate_left
 ·have hh:=Qan hk (n:=n) (k:=4) (e:=8) a1 (by omega) (d1.okY (by omega));rw [q2]at hh;have hq:=hQ.symm.trans (Wh (e:=ee) (by simp only [e1,e2,Rs.next_ok,Rs.next_err,↓reduceIte,motiveR]));subst hq;clear hQ;simp only [hEs]at hh;unfold iO Cs Wq at hh
  try unfold Ts at hh
  refine cXg [0,1] (hh) ?_;simp [zU];((try simp only [zs]);refine Qk.pan (.inr ⟨[],by decide,by simp,?_⟩);simp [zM])
 have cc2:=Qan hk (n:=n) (k:=4) (e:=8) a1 (by omega) (d1.okY (by omega));rw [q2]at cc2;obtain⟨a2,b2,d2,d3, -⟩:=Qbe hk.ok a1 (d1.okY h2) e2;obtain⟨va,vb⟩:=v;have hEva:=Qb va;have hEvb:=Qb vb;unfold asD at cc2;dsimp only at cc2;simp only [hEs,hEva,hEvb]at cc2;unfold iO Cs at cc2
 try unfold Ts at cc2
 refine cXf [0,1] (cc2) ?_;simp [zU]
 (repeat rw [Qa];simp)
 clear cc2 q2;(refine hK _ _ _ ?_;clear hK K);(refine sR fun K hK=>?_;(repeat rw [Qa];simp));rcases Qv l n Xb (oneR l va y 13 f2)with ⟨u3,f3,e3,q3⟩ | ⟨ee,e3,q3⟩
 rotate_left
 ·have hh:=Qbw hk (n:=n) (e:=13) a2 (by omega) d2 (hy.le (by omega));rw [q3]at hh;have hq:=hQ.symm.trans (Wh (e:=ee) (by simp only [e1,e2,e3,Rs.next_ok,Rs.next_err,↓reduceIte,motiveR]));subst hq;clear hQ;simp only [hEva,hEy]at hh;unfold iO Cs Wq at hh
  try unfold Ts at hh
  refine cXg [0,1] (hh) ?_;simp [zU];((try simp only [zs]);refine Qk.pan (.inr ⟨[],by decide,by simp,?_⟩);simp [zM])
 have cc3:=Qbw hk (n:=n) (e:=13) a2 (by omega) d2 (hy.le (by omega));rw [q3]at cc3;obtain⟨a3,b3⟩:=Qew a2 e3;unfold Xb at cc3;simp only [hEva,hEy]at cc3;unfold iO Cs at cc3
 try unfold Ts at cc3
 refine cXf [0,1] (cc3) ?_;simp [zU]
 (repeat rw [Qa];simp)
 clear cc3 q3;(refine hK _ _ _ ?_;clear hK K);refine Qi Wa ?_;(try simp only [zr]);(repeat rw [Qa];simp);rcases Qv l n Qn (lvR l vb f3)with ⟨i,f4,e4,q4⟩ | ⟨ee,e4,q4⟩
 rotate_left
 ·have hh:=Qcl hk (n:=n) a3 (by omega) (d3.le (by omega));rw [q4]at hh;have hq:=hQ.symm.trans (Wh (e:=ee) (by simp only [e1,e2,e3,e4,Rs.next_ok,Rs.next_err,↓reduceIte,motiveR]));subst hq;clear hQ;simp only [hEvb]at hh;unfold iO Cs Wq at hh
  try unfold Ts at hh
  refine cXg [0,1] (hh) ?_;simp [zU];((try simp only [zs]);refine Qk.pan (.inr ⟨[],by decide,by simp,?_⟩);simp [zM])
 have cc4:=Qcl hk (n:=n) a3 (by omega) (d3.le (by omega));rw [q4]at cc4;have hEi:Qn i= .agg [.slice (i.map Wv) .any]:=rfl;simp only [hEvb,hEi]at cc4;unfold iO Cs at cc4
 try unfold Ts at cc4
 refine cXf [0,1] (cc4) ?_;simp [zU]
 (repeat rw [Qa];simp)
 clear cc4 q4;have hq:=hQ.symm.trans (Qbd (()) (g:=f4) (by simp only [e1,e2,e3,e4,Rs.next_ok,Rs.next_err,↓reduceIte,motiveR]));simp only [Xb]at hq;subst hq;clear hQ;((try simp only [zs]);refine Qk.nrm rfl (.inr ⟨[],by decide,by simp,?_⟩);simp [zM])
end
section
theorem r_app{l:List C}{n F:Int}{I:List T ->T ->Int ->Rs T}{J:List T ->T ->T ->Int ->Rs Unit}(hk:Kc l)(hF:F<=20000)(bI:IB l n I)(bJ:KB l n J)(hI:IS l n I F)(hJ:KS l n J F){c:List T}{t:T}{f:Int}(h0:0<=f)(h1:f<=F)(hs:Sub n (l.map C.lv) c t)(hc:Cx c f)(hkk:t.k=6) :
  Sp 171 [.box 0 0,Ts c,Qj t] (iO f l n) (RP l n Qj (appR l I J c t f)):=by
 have h2:f<=20000:=by omega
 have hcl:=hc.len;have hcc:c.length<=1000000:=by omega
 have hl:=hs.ks hkk (m:=2);obtain⟨x0,x1,hks⟩:=Ql2 hl;have z0:t.kid 0=x0:=by unfold T.kid;rw [hks];rfl
 have z1:t.kid 1=x1:=by unfold T.kid;rw [hks];rfl
 have hEt:Qj t= .agg [.int .i64 t.k, .int .i64 t.n, .int .i64 t.a, .slice (t.ls.map Qn) .any, .slice [Qj x0,Qj x1] .any]:=by rw [Qb t,hks];rfl
 have k0:=hs.kid (i:=0) (by omega) (by rw [hkk];rfl);rw [z0]at k0;have k1:=hs.kid (i:=1) (by omega) (by rw [hkk];rfl);rw [z1]at k1;have hE0:=Qb x0;have hE1:=Qb x1;have L1:1<=Ql:=by unfold Ql;omega
 have L2:2<=Ql:=by unfold Ql;omega
 have L3:3<=Ql:=by unfold Ql;omega
 refine RP.of ?_;generalize hQ:RQ l n Qj (appR l I J c t f)=Q;rw [hEt];simp only [hE0,hE1];unfold iO Cs Ts;refine eN Tryz.func171 rfl (by decide) rfl rfl ?_;(refine sR fun K hK=>?_;(repeat rw [Qa];simp);refine hK _ _ _ ?_;clear hK K);(refine sR fun K hK=>?_;(repeat rw [Qa];simp));rcases Qv l n Qj (I c x0 f)with ⟨s,f1,e1,q1⟩ | ⟨ee,e1,q1⟩
 rotate_left
 ·have hh:=hI c x0 f h0 h1 k0 hc;rw [q1]at hh;have hq:=hQ.symm.trans (Wh (e:=ee) (by simp only [e1,Rs.next_ok,Rs.next_err,↓reduceIte,appR,z0,z1]));subst hq;clear hQ;simp only [hE0]at hh;unfold iO Cs Wq at hh
  try unfold Ts at hh
  refine cXg [0,1] (hh) ?_;simp [zU];((try simp only [zs]);refine Qk.pan (.inr ⟨[],by decide,by simp,?_⟩);simp [zM])
 have cc1:=hI c x0 f h0 h1 k0 hc;rw [q1]at cc1;obtain⟨a1,b1,d1⟩:=bI _ _ _ _ _ h0 h2 k0 hc e1;have hEs:=Qb s;simp only [hE0,hEs]at cc1;unfold iO Cs at cc1
 try unfold Ts at cc1
 refine cXf [0,1] (cc1) ?_;simp [zU]
 (repeat rw [Qa];simp)
 clear cc1 q1;rcases Qv l n asD (asR l s 4 8 f1)with ⟨v,f2,e2,q2⟩ | ⟨ee,e2,q2⟩
 rotate_left
 ·have hh:=Qan hk (n:=n) (k:=4) (e:=8) a1 (by omega) (d1.okY (by omega));rw [q2]at hh;have hq:=hQ.symm.trans (Wh (e:=ee) (by simp only [e1,e2,Rs.next_ok,Rs.next_err,↓reduceIte,appR,z0,z1]));subst hq;clear hQ;simp only [hEs]at hh;unfold iO Cs Wq at hh
  try unfold Ts at hh
  refine cXg [0,1] (hh) ?_;simp [zU];((try simp only [zs]);refine Qk.pan (.inr ⟨[],by decide,by simp,?_⟩);simp [zM])
 have cc2:=Qan hk (n:=n) (k:=4) (e:=8) a1 (by omega) (d1.okY (by omega));rw [q2]at cc2;obtain⟨a2,b2,d2,d3, -⟩:=Qbe hk.ok a1 (d1.okY h2) e2;obtain⟨va,vb⟩:=v;have hEva:=Qb va;have hEvb:=Qb vb;unfold asD at cc2;dsimp only at cc2;simp only [hEs,hEva,hEvb]at cc2;unfold iO Cs at cc2
 try unfold Ts at cc2
 refine cXf [0,1] (cc2) ?_;simp [zU]
 (repeat rw [Qa];simp)
 clear cc2 q2;(refine hK _ _ _ ?_;clear hK K);(refine Qc fun K hK=>?_;refine dR fun KT hKT=>?_;(repeat rw [Qd];simp));rcases Qv l n Xb (J c x1 va f2)with ⟨u3,f3,e3,q3⟩ | ⟨ee,e3,q3⟩
 rotate_left
 ·have hh:=hJ c x1 va f2 a2 (by omega) k1 (hc.le (by omega)) d2;rw [q3]at hh;have hq:=hQ.symm.trans (Wh (e:=ee) (by simp only [e1,e2,e3,Rs.next_ok,Rs.next_err,↓reduceIte,appR,z0,z1]));subst hq;clear hQ;simp only [hE1,hEva]at hh;unfold iO Cs Wq at hh
  try unfold Ts at hh
  refine cYo [0,1] true false (hh) (fun o h e=>e) ?_;simp [zU];((try simp only [Qt,Qu,Qr,Qw,Wi]);(repeat(refine Wr _ _ _ _ (by kernel_rfl) ?_;simp only [Qr,List.set,List.nil_append,List.cons_append,Nat.reduceAdd]));(try simp only [Qm]));(refine hKT _ _ _ _ (by kernel_rfl) ?_;clear hKT KT);simp [Xi];((try simp only [zs]);refine Qk.pan (.inr ⟨[],by decide,by simp,?_⟩);simp [zM])
 have cc3:=hJ c x1 va f2 a2 (by omega) k1 (hc.le (by omega)) d2;rw [q3]at cc3;obtain⟨a3,b3⟩:=bJ _ _ _ _ _ _ a2 (by omega) k1 (hc.le (by omega)) d2 e3;unfold Xb at cc3;simp only [hE1,hEva]at cc3;unfold iO Cs at cc3
 try unfold Ts at cc3
 refine cYo [0,1] true true (cc3) (fun o h e=>e) ?_;simp [zU];(try simp only [zq]);(repeat rw [Qd];simp);clear cc3 q3;(refine hKT _ _ _ _ (by kernel_rfl) ?_;clear hKT KT);(refine hK _ _ _ ?_;clear hK K);(refine Qc fun K hK=>?_;refine dR fun KT hKT=>?_;(repeat rw [Qd];simp));rcases Qv l n Qj (Qqc vb x1 f3)with ⟨w,f4,e4,q4⟩ | ⟨ee,e4,q4⟩
 rotate_left
 ·have hh:=Qbv (l:=l) (n:=n) (f:=f3) (t:=vb) (a:=x1) (by omega) ⟨d3.1,d3.pm (by omega)⟩ ⟨k1.ok,by have:=k1.pot;unfold PM;omega⟩;rw [q4]at hh;have hq:=hQ.symm.trans (Wh (e:=ee) (by simp only [e1,e2,e3,e4,Rs.next_ok,Rs.next_err,↓reduceIte,appR,z0,z1]));subst hq;clear hQ;simp only [hEvb,hE1]at hh;unfold iO Cs Wq at hh
  try unfold Ts at hh
  refine cYo [0,1] true false (hh) (fun o h e=>e) ?_;simp [zU];((try simp only [Qt,Qu,Qr,Qw,Wi]);(repeat(refine Wr _ _ _ _ (by kernel_rfl) ?_;simp only [Qr,List.set,List.nil_append,List.cons_append,Nat.reduceAdd]));(try simp only [Qm]));(refine hKT _ _ _ _ (by kernel_rfl) ?_;clear hKT KT);simp [Xi];((try simp only [zs]);refine Qk.pan (.inr ⟨[],by decide,by simp,?_⟩);simp [zM])
 have cc4:=Qbv (l:=l) (n:=n) (f:=f3) (t:=vb) (a:=x1) (by omega) ⟨d3.1,d3.pm (by omega)⟩ ⟨k1.ok,by have:=k1.pot;unfold PM;omega⟩;rw [q4]at cc4;have hEw:=Qb w;simp only [hEvb,hE1,hEw]at cc4;unfold iO Cs at cc4
 try unfold Ts at cc4
 refine cYo [0,1] true true (cc4) (fun o h e=>e) ?_;simp [zU];(try simp only [zq]);(repeat rw [Qd];simp);clear cc4 q4;have hq:=hQ.symm.trans (Qbd (w) (g:=f4) (by simp only [e1,e2,e3,e4,Rs.next_ok,Rs.next_err,↓reduceIte,appR,z0,z1]));simp only [hEw]at hq;subst hq;clear hQ;(refine hKT _ _ _ _ (by kernel_rfl) ?_;clear hKT KT);(refine hK _ _ _ ?_;clear hK K);(refine Qe ?_;(try simp only [zs]);refine Qk.ret rfl (.inr ⟨[],by decide,by simp,?_⟩);simp [zM])
theorem Wbt{l:List C}{n F:Int}{I:List T ->T ->Int ->Rs T}{J:List T ->T ->T ->Int ->Rs Unit}(hk:Kc l)(hF:F<=20000)(bI:IB l n I)(bJ:KB l n J)(hI:IS l n I F)(hJ:KS l n J F){c:List T}{t:T}{f:Int}(h0:0<=f)(h1:f<=F)(hs:Sub n (l.map C.lv) c t)(hc:Cx c f)(hkk:t.k=7) :
  Sp 126 [.box 0 0,Ts c,Qj t] (iO f l n) (RP l n Qj (letR l I J c t f)):=by
 have h2:f<=20000:=by omega
 have hcl:=hc.len;have hcc:c.length<=1000000:=by omega
 have hl:=hs.ks hkk (m:=3);obtain⟨x0,x1,x2,hks⟩:=Wdy hl;have z0:t.kid 0=x0:=by unfold T.kid;rw [hks];rfl
 have z1:t.kid 1=x1:=by unfold T.kid;rw [hks];rfl
 have z2:t.kid 2=x2:=by unfold T.kid;rw [hks];rfl
 have hEt:Qj t= .agg [.int .i64 t.k, .int .i64 t.n, .int .i64 t.a, .slice (t.ls.map Qn) .any, .slice [Qj x0,Qj x1,Qj x2] .any]:=by rw [Qb t,hks];rfl
 have k0:=hs.kid (i:=0) (by omega) (by rw [hkk];rfl);rw [z0]at k0;have k1:=hs.kid (i:=1) (by omega) (by rw [hkk];rfl);rw [z1]at k1;obtain⟨c1,hc1⟩:∃c1,c1=c++ [x0]:=⟨_,rfl⟩;have k2:=hs.kidB (i:=2) hcc x0 (by omega) (by rw [hkk];rfl);rw [z2,<- hc1]at k2;have hE0:=Qb x0;have hE1:=Qb x1;have hE2:=Qb x2;have L1:1<=Ql:=by unfold Ql;omega
 have L2:2<=Ql:=by unfold Ql;omega
 have L3:3<=Ql:=by unfold Ql;omega
 refine RP.of ?_;generalize hQ:RQ l n Qj (letR l I J c t f)=Q;rw [hEt];simp only [hE0,hE1,hE2];unfold iO Cs Ts;refine eN Tryz.func126 rfl (by decide) rfl rfl ?_;(refine sR fun K hK=>?_;(repeat rw [Qa];simp);refine hK _ _ _ ?_;clear hK K);(refine sR fun K hK=>?_;(repeat rw [Qa];simp));rcases Qv l n Qn (sortR l I c x0 f)with ⟨i,f1,e1,q1⟩ | ⟨ee,e1,q1⟩
 rotate_left
 ·have hh:=Zd hk hF bI bJ hI hJ h0 h1 k0 hc;rw [q1]at hh;have hq:=hQ.symm.trans (Wh (e:=ee) (by simp only [e1,Rs.next_ok,Rs.next_err,↓reduceIte,letR,z0,z1,z2]));subst hq;clear hQ;simp only [hE0]at hh;unfold iO Cs Wq at hh
  try unfold Ts at hh
  refine cXg [0,1] (hh) ?_;simp [zU];((try simp only [zs]);refine Qk.pan (.inr ⟨[],by decide,by simp,?_⟩);simp [zM])
 have cc1:=Zd hk hF bI bJ hI hJ h0 h1 k0 hc;rw [q1]at cc1;obtain⟨a1,b1, -⟩:=Qag hk.ok bI h0 h2 k0 hc e1;have hEi:Qn i= .agg [.slice (i.map Wv) .any]:=rfl;simp only [hE0,hEi]at cc1;unfold iO Cs at cc1
 try unfold Ts at cc1
 refine cXf [0,1] (cc1) ?_;simp [zU]
 (repeat rw [Qa];simp)
 clear cc1 q1;(refine hK _ _ _ ?_;clear hK K);(refine Qc fun K hK=>?_;refine dR fun KT hKT=>?_;(repeat rw [Qd];simp));rcases Qv l n Xb (J c x1 x0 f1)with ⟨u2,f2,e2,q2⟩ | ⟨ee,e2,q2⟩
 rotate_left
 ·have hh:=hJ c x1 x0 f1 a1 (by omega) k1 (hc.le (by omega)) (k0.okY (by omega));rw [q2]at hh;have hq:=hQ.symm.trans (Wh (e:=ee) (by simp only [e1,e2,Rs.next_ok,Rs.next_err,↓reduceIte,letR,z0,z1,z2]));subst hq;clear hQ;simp only [hE1,hE0]at hh;unfold iO Cs Wq at hh
  try unfold Ts at hh
  refine cYo [0,1] true false (hh) (fun o h e=>e) ?_;simp [zU];((try simp only [Qt,Qu,Qr,Qw,Wi]);(repeat(refine Wr _ _ _ _ (by kernel_rfl) ?_;simp only [Qr,List.set,List.nil_append,List.cons_append,Nat.reduceAdd]));(try simp only [Qm]));(refine hKT _ _ _ _ (by kernel_rfl) ?_;clear hKT KT);simp [Xi];((try simp only [zs]);refine Qk.pan (.inr ⟨[],by decide,by simp,?_⟩);simp [zM])
 have cc2:=hJ c x1 x0 f1 a1 (by omega) k1 (hc.le (by omega)) (k0.okY (by omega));rw [q2]at cc2;obtain⟨a2,b2⟩:=bJ _ _ _ _ _ _ a1 (by omega) k1 (hc.le (by omega)) (k0.okY (by omega)) e2;unfold Xb at cc2;simp only [hE1,hE0]at cc2;unfold iO Cs at cc2
 try unfold Ts at cc2
 refine cYo [0,1] true true (cc2) (fun o h e=>e) ?_;simp [zU];(try simp only [zq]);(repeat rw [Qd];simp);clear cc2 q2;(refine hKT _ _ _ _ (by kernel_rfl) ?_;clear hKT KT);(refine hK _ _ _ ?_;clear hK K);(refine Qc fun K hK=>?_;refine dR fun KT hKT=>?_;(repeat rw [Qd];simp));rcases Qv l n Qj (Qqc x2 x1 f2)with ⟨w,f3,e3,q3⟩ | ⟨ee,e3,q3⟩
 rotate_left
 ·have hh:=Qbv (l:=l) (n:=n) (f:=f2) (t:=x2) (a:=x1) (by omega) ⟨k2.ok,by have:=k2.pot;unfold PM;omega⟩ ⟨k1.ok,by have:=k1.pot;unfold PM;omega⟩;rw [q3]at hh;have hq:=hQ.symm.trans (Wh (e:=ee) (by simp only [e1,e2,e3,Rs.next_ok,Rs.next_err,↓reduceIte,letR,z0,z1,z2]));subst hq;clear hQ;simp only [hE2,hE1]at hh;unfold iO Cs Wq at hh
  try unfold Ts at hh
  refine cYo [0,1] true false (hh) (fun o h e=>e) ?_;simp [zU];((try simp only [Qt,Qu,Qr,Qw,Wi]);(repeat(refine Wr _ _ _ _ (by kernel_rfl) ?_;simp only [Qr,List.set,List.nil_append,List.cons_append,Nat.reduceAdd]));(try simp only [Qm]));(refine hKT _ _ _ _ (by kernel_rfl) ?_;clear hKT KT);simp [Xi];((try simp only [zs]);refine Qk.pan (.inr ⟨[],by decide,by simp,?_⟩);simp [zM])
 have cc3:=Qbv (l:=l) (n:=n) (f:=f2) (t:=x2) (a:=x1) (by omega) ⟨k2.ok,by have:=k2.pot;unfold PM;omega⟩ ⟨k1.ok,by have:=k1.pot;unfold PM;omega⟩;rw [q3]at cc3;have hEw:=Qb w;simp only [hE2,hE1,hEw]at cc3;unfold iO Cs at cc3
 try unfold Ts at cc3
 refine cYo [0,1] true true (cc3) (fun o h e=>e) ?_;simp [zU];(try simp only [zq]);(repeat rw [Qd];simp);clear cc3 q3;have hq:=hQ.symm.trans (Qbd (w) (g:=f3) (by simp only [e1,e2,e3,Rs.next_ok,Rs.next_err,↓reduceIte,letR,z0,z1,z2]));simp only [hEw]at hq;subst hq;clear hQ;(refine hKT _ _ _ _ (by kernel_rfl) ?_;clear hKT KT);(refine hK _ _ _ ?_;clear hK K);(refine Qe ?_;(try simp only [zs]);refine Qk.ret rfl (.inr ⟨[],by decide,by simp,?_⟩);simp [zM])
theorem Wbs{l:List C}{n F:Int}{I:List T ->T ->Int ->Rs T}{J:List T ->T ->T ->Int ->Rs Unit}(hk:Kc l)(hF:F<=20000)(bI:IB l n I)(bJ:KB l n J)(hI:IS l n I F)(hJ:KS l n J F){c:List T}{t:T}{f:Int}(h0:0<=f)(h1:f<=F)(hs:Sub n (l.map C.lv) c t)(hc:Cx c f)(hkk:t.k=7) :
  Sp 172 [.box 0 0,Ts c,Qj t] (iO f l n) (RP l n Qj (withinR l I J c t f)):=by
 have h2:f<=20000:=by omega
 have hcl:=hc.len;have hcc:c.length<=1000000:=by omega
 have hEt:=Qb t;have L1:1<=Ql:=by unfold Ql;omega
 have L2:2<=Ql:=by unfold Ql;omega
 have L3:3<=Ql:=by unfold Ql;omega
 refine RP.of ?_;generalize hQ:RQ l n Qj (withinR l I J c t f)=Q;rw [hEt];unfold iO Cs Ts;refine eN Tryz.func172 rfl (by decide) rfl rfl ?_;(refine sR fun K hK=>?_;(repeat rw [Qa];simp);refine hK _ _ _ ?_;clear hK K);(refine sR fun K hK=>?_;(repeat rw [Qa];simp));rcases Qv l n Qj (letR l I J c t f)with ⟨u,f1,e1,q1⟩ | ⟨ee,e1,q1⟩
 rotate_left
 ·have hh:=Wbt hk hF bI bJ hI hJ h0 h1 hs hc hkk;rw [q1]at hh;have hq:=hQ.symm.trans (Wh (e:=ee) (by simp only [e1,Rs.next_ok,Rs.next_err,↓reduceIte,withinR]));subst hq;clear hQ;simp only [hEt]at hh;unfold iO Cs Wq at hh
  try unfold Ts at hh
  refine cXg [0,1] (hh) ?_;simp [zU];((try simp only [zs]);refine Qk.pan (.inr ⟨[],by decide,by simp,?_⟩);simp [zM])
 have cc1:=Wbt hk hF bI bJ hI hJ h0 h1 hs hc hkk;rw [q1]at cc1;obtain⟨a1,b1,d1⟩:=Qni hk bI bJ h0 h2 hs hc hkk e1;have hEu:=Qb u;simp only [hEt,hEu]at cc1;unfold iO Cs at cc1
 try unfold Ts at cc1
 refine cXf [0,1] (cc1) ?_;simp [zU]
 (repeat rw [Qa];simp)
 clear cc1 q1;rcases Qv l n Qj (I c u f1)with ⟨w,f2,e2,q2⟩ | ⟨ee,e2,q2⟩
 rotate_left
 ·have hh:=hI c u f1 a1 (by omega) d1 (hc.le (by omega));rw [q2]at hh;have hq:=hQ.symm.trans (Wh (e:=ee) (by simp only [e1,e2,Rs.next_ok,Rs.next_err,↓reduceIte,withinR]));subst hq;clear hQ;simp only [hEu]at hh;unfold iO Cs Wq at hh
  try unfold Ts at hh
  refine cXg [0,1] (hh) ?_;simp [zU];((try simp only [zs]);refine Qk.pan (.inr ⟨[],by decide,by simp,?_⟩);simp [zM])
 have cc2:=hI c u f1 a1 (by omega) d1 (hc.le (by omega));rw [q2]at cc2;have hEw:=Qb w;simp only [hEu,hEw]at cc2;unfold iO Cs at cc2
 try unfold Ts at cc2
 refine cXf [0,1] (cc2) ?_;simp [zU]
 (repeat rw [Qa];simp)
 clear cc2 q2;have hq:=hQ.symm.trans (Qbd (w) (g:=f2) (by simp only [e1,e2,Rs.next_ok,Rs.next_err,↓reduceIte,withinR]));simp only [hEw]at hq;subst hq;clear hQ;(refine hK _ _ _ ?_;clear hK K);(refine Qe ?_;(try simp only [zs]);refine Qk.ret rfl (.inr ⟨[],by decide,by simp,?_⟩);simp [zM])
theorem r_lam{l:List C}{n F:Int}{I:List T ->T ->Int ->Rs T}{J:List T ->T ->T ->Int ->Rs Unit}(hk:Kc l)(hF:F<=20000)(bI:IB l n I)(bJ:KB l n J)(hI:IS l n I F)(hJ:KS l n J F){c:List T}{t:T}{f:Int}(h0:0<=f)(h1:f<=F)(hs:Sub n (l.map C.lv) c t)(hc:Cx c f)(hkk:t.k=5) :
  Sp 170 [.box 0 0,Ts c,Qj t] (iO f l n) (RP l n Qj (lamR l I c t f)):=by
 have h2:f<=20000:=by omega
 have hcl:=hc.len;have hcc:c.length<=1000000:=by omega
 have hl:=hs.ks hkk (m:=2);obtain⟨x0,x1,hks⟩:=Ql2 hl;have z0:t.kid 0=x0:=by unfold T.kid;rw [hks];rfl
 have z1:t.kid 1=x1:=by unfold T.kid;rw [hks];rfl
 have hEt:Qj t= .agg [.int .i64 t.k, .int .i64 t.n, .int .i64 t.a, .slice (t.ls.map Qn) .any, .slice [Qj x0,Qj x1] .any]:=by rw [Qb t,hks];rfl
 have k0:=hs.kid (i:=0) (by omega) (by rw [hkk];rfl);rw [z0]at k0;obtain⟨c1,hc1⟩:∃c1,c1=c++ [x0]:=⟨_,rfl⟩;have k1:=hs.kidB (i:=1) hcc x0 (by omega) (by rw [hkk];rfl);rw [z1,<- hc1]at k1;have hE0:=Qb x0;have hE1:=Qb x1;have L1:1<=Ql:=by unfold Ql;omega
 have L2:2<=Ql:=by unfold Ql;omega
 have L3:3<=Ql:=by unfold Ql;omega
 have hb:=Qe0 c x0 hcc;rw [<- hc1]at hb;unfold Ts at hb;simp only [List.map_cons,List.map_nil,hE0]at hb;refine RP.of ?_;generalize hQ:RQ l n Qj (lamR l I c t f)=Q;rw [hEt];simp only [hE0,hE1];unfold iO Cs Ts;refine eN Tryz.func170 rfl (by decide) rfl rfl ?_;(refine sR fun K hK=>?_;(repeat rw [Qa];simp);refine hK _ _ _ ?_;clear hK K);(refine sR fun K hK=>?_;(repeat rw [Qa];simp));rcases Qv l n Qn (sortR l I c x0 f)with ⟨i,f1,e1,q1⟩ | ⟨ee,e1,q1⟩
 rotate_left
 ·have hh:=Zd hk hF bI bJ hI hJ h0 h1 k0 hc;rw [q1]at hh;have hq:=hQ.symm.trans (Wh (e:=ee) (by simp only [e1,Rs.next_ok,Rs.next_err,↓reduceIte,lamR,z0,z1,<- hc1]));subst hq;clear hQ;simp only [hE0]at hh;unfold iO Cs Wq at hh
  try unfold Ts at hh
  refine cXg [0,1] (hh) ?_;simp [zU];((try simp only [zs]);refine Qk.pan (.inr ⟨[],by decide,by simp,?_⟩);simp [zM])
 have cc1:=Zd hk hF bI bJ hI hJ h0 h1 k0 hc;rw [q1]at cc1;obtain⟨a1,b1, -⟩:=Qag hk.ok bI h0 h2 k0 hc e1;have cx:Cx c1 f1:=by rw [hc1];exact hc.below k0 (by omega)
 have hEi:Qn i= .agg [.slice (i.map Wv) .any]:=rfl;simp only [hE0,hEi]at cc1;unfold iO Cs at cc1
 try unfold Ts at cc1
 refine cXf [0,1] (cc1) ?_;simp [zU]
 (repeat rw [Qa];simp)
 clear cc1 q1;(refine hK _ _ _ ?_;clear hK K);(refine Qc fun K hK=>?_;refine dR fun KT hKT=>?_;(repeat rw [Qd];simp [L1]));refine cYp (hb) ?_;(try simp only [zq]);(repeat rw [Qd];simp [L1,L2]);rcases Qv l n Qj (I c1 x1 f1)with ⟨s,f2,e2,q2⟩ | ⟨ee,e2,q2⟩
 rotate_left
 ·have hh:=hI c1 x1 f1 a1 (by omega) k1 cx;rw [q2]at hh;have hq:=hQ.symm.trans (Wh (e:=ee) (by simp only [e1,e2,Rs.next_ok,Rs.next_err,↓reduceIte,lamR,z0,z1,<- hc1]));subst hq;clear hQ;simp only [hE1]at hh;unfold iO Cs Wq at hh
  try unfold Ts at hh
  refine cYo [0,1] true false (hh) (fun o h e=>e) ?_;simp [zU];((try simp only [Qt,Qu,Qr,Qw,Wi]);(repeat(refine Wr _ _ _ _ (by kernel_rfl) ?_;simp only [Qr,List.set,List.nil_append,List.cons_append,Nat.reduceAdd]));(try simp only [Qm]));(refine hKT _ _ _ _ (by kernel_rfl) ?_;clear hKT KT);simp [Xi];((try simp only [zs]);refine Qk.pan (.inr ⟨[],by decide,by simp,?_⟩);simp [zM])
 have cc2:=hI c1 x1 f1 a1 (by omega) k1 cx;rw [q2]at cc2;have hEs:=Qb s;simp only [hE1,hEs]at cc2;unfold iO Cs at cc2
 try unfold Ts at cc2
 have ho:=Ze 4 [x0,s];obtain⟨w,hw⟩:∃w,ofT 4 [x0,s]=w:=⟨_,rfl⟩;have hEw:=Qb w;simp only [hw,List.map_cons,List.map_nil,hE0,hEs,hEw]at ho;refine cYo [0,1] true true (cc2) (fun o h e=>e) ?_;simp [zU];(try simp only [zq]);(repeat rw [Qd];simp);clear cc2 q2
 skip
 refine Xt.pureD Qf (ho) ?_ (by simp [D.deeps,D.deep,D.fgts,D.fgt]) (by simp [D.pures,D.pure,Cp.free,D.pures_map]) (by simp [Out.pure,D.pure,D.pures,Cp.free,D.pures_map]);(try simp only [zq]);(repeat rw [Qd];simp);have hq:=hQ.symm.trans (Qbd (w) (g:=f2) (by simp only [e1,e2,Rs.next_ok,Rs.next_err,↓reduceIte,lamR,z0,z1,<- hc1];rw [hw]));simp only [hEw]at hq;subst hq;clear hQ;(refine hKT _ _ _ _ (by kernel_rfl) ?_;clear hKT KT);(refine hK _ _ _ ?_;clear hK K);(refine Qe ?_;(try simp only [zs]);refine Qk.ret rfl (.inr ⟨[],by decide,by simp,?_⟩);simp [zM])
theorem Qm7{l:List C}{n F:Int}{I:List T ->T ->Int ->Rs T}{J:List T ->T ->T ->Int ->Rs Unit}(hk:Kc l)(hF:F<=20000)(bI:IB l n I)(bJ:KB l n J)(hI:IS l n I F)(hJ:KS l n J F){c:List T}{t:T}{f:Int}(h0:0<=f)(h1:f<=F)(hs:Sub n (l.map C.lv) c t)(hc:Cx c f)(hkk:t.k=4\/t.k=12\/t.k=16) :
  Sp 169 [.box 0 0,Ts c,Qj t] (iO f l n) (RP l n Qj (formerR l I c t f)):=by
 have h2:f<=20000:=by omega
 have hcl:=hc.len;have hcc:c.length<=1000000:=by omega
 have hl:t.ks.length=2:=by rcases hkk with e | e | e <;> exact hs.ks e (m:=2)
 obtain⟨x0,x1,hks⟩:=Ql2 hl;have z0:t.kid 0=x0:=by unfold T.kid;rw [hks];rfl
 have z1:t.kid 1=x1:=by unfold T.kid;rw [hks];rfl
 have hEt:Qj t= .agg [.int .i64 t.k, .int .i64 t.n, .int .i64 t.a, .slice (t.ls.map Qn) .any, .slice [Qj x0,Qj x1] .any]:=by rw [Qb t,hks];rfl
 have k0:=hs.kid (i:=0) (by omega) (by rcases hkk with e | e | e <;> (rw [e];rfl));rw [z0]at k0;obtain⟨c1,hc1⟩:∃c1,c1=c++ [x0]:=⟨_,rfl⟩;have k1:=hs.kidB (i:=1) hcc x0 (by omega) (by rcases hkk with e | e | e <;> (rw [e];rfl));rw [z1,<- hc1]at k1;have hE0:=Qb x0;have hE1:=Qb x1;have L1:1<=Ql:=by unfold Ql;omega
 have L2:2<=Ql:=by unfold Ql;omega
 have L3:3<=Ql:=by unfold Ql;omega
 have hb:=Qe0 c x0 hcc;rw [<- hc1]at hb;unfold Ts at hb;simp only [List.map_cons,List.map_nil,hE0]at hb;refine RP.of ?_;generalize hQ:RQ l n Qj (formerR l I c t f)=Q;rw [hEt];simp only [hE0,hE1];unfold iO Cs Ts;refine eN Tryz.func169 rfl (by decide) rfl rfl ?_;(refine sR fun K hK=>?_;(repeat rw [Qa];simp);refine hK _ _ _ ?_;clear hK K);(refine sR fun K hK=>?_;(repeat rw [Qa];simp));rcases Qv l n Qn (sortR l I c x0 f)with ⟨i,f1,e1,q1⟩ | ⟨ee,e1,q1⟩
 rotate_left
 ·have hh:=Zd hk hF bI bJ hI hJ h0 h1 k0 hc;rw [q1]at hh;have hq:=hQ.symm.trans (Wh (e:=ee) (by simp only [e1,Rs.next_ok,Rs.next_err,↓reduceIte,formerR,z0,z1,<- hc1]));subst hq;clear hQ;simp only [hE0]at hh;unfold iO Cs Wq at hh
  try unfold Ts at hh
  refine cXg [0,1] (hh) ?_;simp [zU];((try simp only [zs]);refine Qk.pan (.inr ⟨[],by decide,by simp,?_⟩);simp [zM])
 have cc1:=Zd hk hF bI bJ hI hJ h0 h1 k0 hc;rw [q1]at cc1;obtain⟨a1,b1,oi⟩:=Qag hk.ok bI h0 h2 k0 hc e1;have cx:Cx c1 f1:=by rw [hc1];exact hc.below k0 (by omega)
 have hEi:Qn i= .agg [.slice (i.map Wv) .any]:=rfl;simp only [hE0,hEi]at cc1;unfold iO Cs at cc1
 try unfold Ts at cc1
 refine cXf [0,1] (cc1) ?_;simp [zU]
 (repeat rw [Qa];simp)
 clear cc1 q1;(refine hK _ _ _ ?_;clear hK K);(refine Qc fun K hK=>?_;refine dR fun KT hKT=>?_;(repeat rw [Qd];simp [L1]));refine cYp (hb) ?_;(try simp only [zq]);(repeat rw [Qd];simp [L1,L2]);rcases Qv l n Qn (sortR l I c1 x1 f1)with ⟨j,f2,e2,q2⟩ | ⟨ee,e2,q2⟩
 rotate_left
 ·have hh:=Zd hk hF bI bJ hI hJ a1 (by omega) k1 cx;rw [q2]at hh;have hq:=hQ.symm.trans (Wh (e:=ee) (by simp only [e1,e2,Rs.next_ok,Rs.next_err,↓reduceIte,formerR,z0,z1,<- hc1]));subst hq;clear hQ;simp only [hE1]at hh;unfold iO Cs Wq at hh
  try unfold Ts at hh
  refine cYo [0,1] true false (hh) (fun o h e=>e) ?_;simp [zU];((try simp only [Qt,Qu,Qr,Qw,Wi]);(repeat(refine Wr _ _ _ _ (by kernel_rfl) ?_;simp only [Qr,List.set,List.nil_append,List.cons_append,Nat.reduceAdd]));(try simp only [Qm]));(refine hKT _ _ _ _ (by kernel_rfl) ?_;clear hKT KT);simp [Xi];((try simp only [zs]);refine Qk.pan (.inr ⟨[],by decide,by simp,?_⟩);simp [zM])
 have cc2:=Zd hk hF bI bJ hI hJ a1 (by omega) k1 cx;rw [q2]at cc2;obtain⟨a2,b2,oj⟩:=Qag hk.ok bI a1 (by omega) k1 cx e2;have hEj:Qn j= .agg [.slice (j.map Wv) .any]:=rfl;simp only [hE1,hEj]at cc2;unfold iO Cs at cc2
 try unfold Ts at cc2
 have hm:=Wcg [i,j] (by unfold Ql;simp) (fun x hx=>by
  simp only [List.mem_cons,List.not_mem_nil,or_false]at hx;rcases hx with rfl | rfl
  ·exact oi.1
  ·exact oj.1)
 unfold Lvs at hm;simp only [List.map_cons,List.map_nil]at hm;obtain⟨u,hu⟩:∃u,Wg [i,j].flatten=u:=⟨_,rfl⟩;rw [hu]at hm;have hEu:Qn u= .agg [.slice (u.map Wv) .any]:=rfl;simp only [hEi,hEj,hEu]at hm;have hn:=Qhm u;obtain⟨w,hw⟩:∃w,Qiq u=w:=⟨_,rfl⟩;rw [hw]at hn;have hEw:=Qb w;simp only [hEu,hEw]at hn;refine cYo [0,1] true true (cc2) (fun o h e=>e) ?_;simp [zU];(try simp only [zq]);(repeat rw [Qd];simp);clear cc2 q2;refine cYp (hm) ?_;(try simp only [zq]);(repeat rw [Qd];simp);refine cYp (hn) ?_;(try simp only [zq]);(repeat rw [Qd];simp);have hq:=hQ.symm.trans (Qbd (w) (g:=f2) (by simp only [e1,e2,Rs.next_ok,Rs.next_err,↓reduceIte,formerR,z0,z1,<- hc1];rw [hu,hw]));simp only [hEw]at hq;subst hq;clear hQ;(refine hKT _ _ _ _ (by kernel_rfl) ?_;clear hKT KT);(refine hK _ _ _ ?_;clear hK K);(refine Qe ?_;(try simp only [zs]);refine Qk.ret rfl (.inr ⟨[],by decide,by simp,?_⟩);simp [zM])
theorem r_id{l:List C}{n F:Int}{I:List T ->T ->Int ->Rs T}{J:List T ->T ->T ->Int ->Rs Unit}(hk:Kc l)(hF:F<=20000)(bI:IB l n I)(bJ:KB l n J)(hI:IS l n I F)(hJ:KS l n J F){c:List T}{t:T}{f:Int}(h0:0<=f)(h1:f<=F)(hs:Sub n (l.map C.lv) c t)(hc:Cx c f)(hkk:t.k=19) :
  Sp 175 [.box 0 0,Ts c,Qj t] (iO f l n) (RP l n Qj (idR l I J c t f)):=by
 have h2:f<=20000:=by omega
 have hcl:=hc.len;have hcc:c.length<=1000000:=by omega
 have hl:=hs.ks hkk (m:=3);obtain⟨x0,x1,x2,hks⟩:=Wdy hl;have z0:t.kid 0=x0:=by unfold T.kid;rw [hks];rfl
 have z1:t.kid 1=x1:=by unfold T.kid;rw [hks];rfl
 have z2:t.kid 2=x2:=by unfold T.kid;rw [hks];rfl
 have hEt:Qj t= .agg [.int .i64 t.k, .int .i64 t.n, .int .i64 t.a, .slice (t.ls.map Qn) .any, .slice [Qj x0,Qj x1,Qj x2] .any]:=by rw [Qb t,hks];rfl
 have k0:=hs.kid (i:=0) (by omega) (by rw [hkk];rfl);rw [z0]at k0;have k1:=hs.kid (i:=1) (by omega) (by rw [hkk];rfl);rw [z1]at k1;have k2:=hs.kid (i:=2) (by omega) (by rw [hkk];rfl);rw [z2]at k2;have hE0:=Qb x0;have hE1:=Qb x1;have hE2:=Qb x2;have L1:1<=Ql:=by unfold Ql;omega
 have L2:2<=Ql:=by unfold Ql;omega
 have L3:3<=Ql:=by unfold Ql;omega
 refine RP.of ?_;generalize hQ:RQ l n Qj (idR l I J c t f)=Q;rw [hEt];simp only [hE0,hE1,hE2];unfold iO Cs Ts;refine eN Tryz.func175 rfl (by decide) rfl rfl ?_;(refine sR fun K hK=>?_;(repeat rw [Qa];simp);refine hK _ _ _ ?_;clear hK K);(refine sR fun K hK=>?_;(repeat rw [Qa];simp));rcases Qv l n Qn (sortR l I c x0 f)with ⟨i,f1,e1,q1⟩ | ⟨ee,e1,q1⟩
 rotate_left
 ·have hh:=Zd hk hF bI bJ hI hJ h0 h1 k0 hc;rw [q1]at hh;have hq:=hQ.symm.trans (Wh (e:=ee) (by simp only [e1,Rs.next_ok,Rs.next_err,↓reduceIte,idR,z0,z1,z2]));subst hq;clear hQ;simp only [hE0]at hh;unfold iO Cs Wq at hh
  try unfold Ts at hh
  refine cXg [0,1] (hh) ?_;simp [zU];((try simp only [zs]);refine Qk.pan (.inr ⟨[],by decide,by simp,?_⟩);simp [zM])
 have cc1:=Zd hk hF bI bJ hI hJ h0 h1 k0 hc;rw [q1]at cc1;obtain⟨a1,b1, -⟩:=Qag hk.ok bI h0 h2 k0 hc e1;have hEi:Qn i= .agg [.slice (i.map Wv) .any]:=rfl;simp only [hE0,hEi]at cc1;unfold iO Cs at cc1
 try unfold Ts at cc1
 refine cXf [0,1] (cc1) ?_;simp [zU]
 (repeat rw [Qa];simp)
 clear cc1 q1;(refine hK _ _ _ ?_;clear hK K);(refine Qc fun K hK=>?_;refine dR fun KT hKT=>?_;(repeat rw [Qd];simp));rcases Qv l n Xb (J c x1 x0 f1)with ⟨u2,f2,e2,q2⟩ | ⟨ee,e2,q2⟩
 rotate_left
 ·have hh:=hJ c x1 x0 f1 a1 (by omega) k1 (hc.le (by omega)) (k0.okY (by omega));rw [q2]at hh;have hq:=hQ.symm.trans (Wh (e:=ee) (by simp only [e1,e2,Rs.next_ok,Rs.next_err,↓reduceIte,idR,z0,z1,z2]));subst hq;clear hQ;simp only [hE1,hE0]at hh;unfold iO Cs Wq at hh
  try unfold Ts at hh
  refine cYo [0,1] true false (hh) (fun o h e=>e) ?_;simp [zU];((try simp only [Qt,Qu,Qr,Qw,Wi]);(repeat(refine Wr _ _ _ _ (by kernel_rfl) ?_;simp only [Qr,List.set,List.nil_append,List.cons_append,Nat.reduceAdd]));(try simp only [Qm]));(refine hKT _ _ _ _ (by kernel_rfl) ?_;clear hKT KT);simp [Xi];((try simp only [zs]);refine Qk.pan (.inr ⟨[],by decide,by simp,?_⟩);simp [zM])
 have cc2:=hJ c x1 x0 f1 a1 (by omega) k1 (hc.le (by omega)) (k0.okY (by omega));rw [q2]at cc2;obtain⟨a2,b2⟩:=bJ _ _ _ _ _ _ a1 (by omega) k1 (hc.le (by omega)) (k0.okY (by omega)) e2;unfold Xb at cc2;simp only [hE1,hE0]at cc2;unfold iO Cs at cc2
 try unfold Ts at cc2
 refine cYo [0,1] true true (cc2) (fun o h e=>e) ?_;simp [zU];(try simp only [zq]);(repeat rw [Qd];simp);clear cc2 q2;(refine hKT _ _ _ _ (by kernel_rfl) ?_;clear hKT KT);(refine hK _ _ _ ?_;clear hK K);(refine Qc fun K hK=>?_;refine dR fun KT hKT=>?_;(repeat rw [Qd];simp));rcases Qv l n Xb (J c x2 x0 f2)with ⟨u3,f3,e3,q3⟩ | ⟨ee,e3,q3⟩
 rotate_left
 ·have hh:=hJ c x2 x0 f2 a2 (by omega) k2 (hc.le (by omega)) (k0.okY (by omega));rw [q3]at hh;have hq:=hQ.symm.trans (Wh (e:=ee) (by simp only [e1,e2,e3,Rs.next_ok,Rs.next_err,↓reduceIte,idR,z0,z1,z2]));subst hq;clear hQ;simp only [hE2,hE0]at hh;unfold iO Cs Wq at hh
  try unfold Ts at hh
  refine cYo [0,1] true false (hh) (fun o h e=>e) ?_;simp [zU];((try simp only [Qt,Qu,Qr,Qw,Wi]);(repeat(refine Wr _ _ _ _ (by kernel_rfl) ?_;simp only [Qr,List.set,List.nil_append,List.cons_append,Nat.reduceAdd]));(try simp only [Qm]));(refine hKT _ _ _ _ (by kernel_rfl) ?_;clear hKT KT);simp [Xi];((try simp only [zs]);refine Qk.pan (.inr ⟨[],by decide,by simp,?_⟩);simp [zM])
 have cc3:=hJ c x2 x0 f2 a2 (by omega) k2 (hc.le (by omega)) (k0.okY (by omega));rw [q3]at cc3;unfold Xb at cc3;simp only [hE2,hE0]at cc3;unfold iO Cs at cc3
 try unfold Ts at cc3
 refine cYo [0,1] true true (cc3) (fun o h e=>e) ?_;simp [zU];(try simp only [zq]);(repeat rw [Qd];simp);clear cc3 q3;(refine hKT _ _ _ _ (by kernel_rfl) ?_;clear hKT KT);(refine hK _ _ _ ?_;clear hK K);have hn:=Qhm i;obtain⟨w,hw⟩:∃w,Qiq i=w:=⟨_,rfl⟩;rw [hw]at hn;have hEw:=Qb w;simp only [hEi,hEw]at hn;(refine sR fun K hK=>?_;(repeat rw [Qa];simp));refine cXr (hn) ?_
 (repeat rw [Qa];simp)
 have hq:=hQ.symm.trans (Qbd (w) (g:=f3) (by simp only [e1,e2,e3,Rs.next_ok,Rs.next_err,↓reduceIte,idR,z0,z1,z2];rw [hw]));simp only [hEw]at hq;subst hq;clear hQ;(refine hK _ _ _ ?_;clear hK K);(refine Qe ?_;(try simp only [zs]);refine Qk.ret rfl (.inr ⟨[],by decide,by simp,?_⟩);simp [zM])
end
theorem Wa2(l:List C)(n:Int)(lv:List LV):Qoe l n lv=match atC l n lv with
  | some c=>c.ty.levels lv 0
  | none=>Xa:=by
 unfold Qoe atC;split
 ·split <;> rfl
 ·rfl
theorem Qwu(l:List C)(hk:Kc l)(n:Int)(lv:List LV)(hv:lv.length<=Ql)(hvl:∀b,b∈lv ->b.length<=Ql):∃b,Sp 202 [Cs l, .int .i64 n, .slice (lv.map Qn) .any] [] (rt (.tuple [Qj (Qoe l n lv), .bool b])):=by
 have ha:=Qz3 l hk.cs.len n lv;rw [Wa2];cases hc:atC l n lv with
 | none =>
  refine⟨false,?_⟩;rw [hc]at ha;simp only [Option.getD_none,Option.isSome_none]at ha⊢;rw [encZ];unfold Cs Qgz at ha;unfold Cs;refine eN Tryz.func202 rfl (by decide) rfl rfl ?_;(refine sR fun K hK=>?_;(repeat rw [Qa];simp);refine hK _ _ _ ?_;clear hK K);(refine sR fun K hK=>?_;(repeat rw [Qa];simp));refine cXr (ha) ?_
  (repeat rw [Qa];simp)
  (refine hK _ _ _ ?_;clear hK K);refine Qc fun K1 hK1=>?_
  (refine sR fun K hK=>?_;(repeat rw [Qa];simp);refine hK _ _ _ ?_;clear hK K);refine pT rfl ?_;(refine sR fun K hK=>?_;(repeat rw [Qa];simp);refine hK _ _ _ ?_;clear hK K);(refine Qe ?_;(try simp only [zs]);refine Qk.ret rfl (.inl ?_);simp [zM])
 | some c =>
  refine⟨true,?_⟩;rw [hc]at ha;simp only [Option.getD_some,Option.isSome_some]at ha⊢;have hm:=Qz4 hc;have hty:=(hk.ok c hm).2.1;have hd:c.ty.deep<=DM:=by have:=c.ty.deep_nsz;have:=hk.ty c hm;unfold DM;omega
  have hs:=Qj9 c.ty lv hv hvl hd hty;rw [Qay c]at ha;rw [Qb c.ty]at hs;generalize c.ty.levels lv 0=r at hs⊢;have hEr:=Qb r;unfold Lvs at hs;unfold Cs at ha⊢;refine eN Tryz.func202 rfl (by decide) rfl rfl ?_;(refine sR fun K hK=>?_;(repeat rw [Qa];simp);refine hK _ _ _ ?_;clear hK K);(refine sR fun K hK=>?_;(repeat rw [Qa];simp));refine cXr (ha) ?_
  (repeat rw [Qa];simp)
  (refine hK _ _ _ ?_;clear hK K);refine Qc fun K1 hK1=>?_
  (refine sR fun K hK=>?_;(repeat rw [Qa];simp);refine hK _ _ _ ?_;clear hK K);refine pF rfl ?_;refine Qg (hK1 _ _ _ ?_);(refine sR fun K hK=>?_;(repeat rw [Qa];simp));refine cXr (hs) ?_
  (repeat rw [Qa];simp)
  (refine hK _ _ _ ?_;clear hK K);(refine Qe ?_;(try simp only [zs]);refine Qk.ret rfl (.inl ?_);simp [zM]);exact hEr.symm
section
theorem Quz{l:List C}{n F:Int}{I:List T ->T ->Int ->Rs T}{J:List T ->T ->T ->Int ->Rs Unit}(hk:Kc l)(hF:F<=20000)(bI:IB l n I)(bJ:KB l n J)(hI:IS l n I F)(hJ:KS l n J F){c:List T}{t:T}{f:Int}(h0:0<=f)(h1:f<=F)(hs:Sub n (l.map C.lv) c t)(hc:Cx c f)(hkk:t.k=1) :
  Sp 166 [.box 0 0,Ts c,Qj t] (iO f l n) (RP l n Qj (Qfe c t f)):=by
 have h2:f<=20000:=by omega
 have hcl:=hc.len;have hcc:c.length<=1000000:=by omega
 have hEt:=Qb t;have L1:1<=Ql:=by unfold Ql;omega
 have L2:2<=Ql:=by unfold Ql;omega
 have L3:3<=Ql:=by unfold Ql;omega
 have hva:Qb5 (c.length:Int) t=true:=by
  have h:=(Qht hs.core).2.1;have e:Qn0 n (c.length:Int) (l.map C.lv) t=Qb5 (c.length:Int) t:=by unfold Qn0;rw [hkk];rfl
  rw [<- e];exact h
 obtain⟨q1,q2, -, -⟩:=Qg3.1 hva;obtain⟨j,hj⟩:∃j,j=c.length - 1 - t.n.toNat:=⟨_,rfl⟩;have hj1:j<c.length:=by omega
 have hj2:(j:Int)<c.length:=by omega
 have hw1:IntKind.i64.wrap ((c.length:Int) - 1)=(c.length:Int) - 1:=Qbp (by omega) (by omega);have hw2:IntKind.i64.wrap ((c.length:Int) - 1 - t.n)=(j:Int):=by rw [Qbp (by omega) (by omega)];omega
 have hw3:IntKind.i64.wrap (t.n+1)=t.n+1:=Qbp (by omega) (by omega);obtain⟨u,hcj⟩:∃u,c[j]=u:=⟨_,rfl⟩;have hou:=hc.ok _ (List.getElem_mem hj1);rw [hcj]at hou;have hw:(c.getD (c.length - 1 - t.n.toNat) Xa).lift (t.n+1) 0 0=u.lift (t.n+1) 0 0:=by rw [<- hj,getDi hj1,hcj]
 have up:=Qez u (t.n+1) hou.1 (by have:=hou.2;unfold PM;omega);generalize u.lift (t.n+1) 0 0=w at up hw;have hEu:=Qb u;have hEw:=Qb w;rw [hEu,hEw]at up;refine RP.of ?_;generalize hQ:RQ l n Qj (Qfe c t f)=Q;rw [hEt];unfold iO Cs Ts;refine eN Tryz.func166 rfl (by decide) rfl rfl ?_;(refine sR fun K hK=>?_;(repeat rw [Qa];simp);refine hK _ _ _ ?_;clear hK K);(refine Qc fun K hK=>?_;refine dR fun KT hKT=>?_;(repeat rw [Qd];simp [hw1,hw2,hw3,hj1,hj2,hcj,hEu]));refine cYp (up) ?_;(try simp only [zq]);(repeat rw [Qd];simp);have hq:=hQ.symm.trans (Qbd (w) (g:=f) (by simp only [Rs.next_ok,Rs.next_err,↓reduceIte,Qfe];rw [hw]));simp only [hEw]at hq;subst hq;clear hQ;(refine hKT _ _ _ _ (by kernel_rfl) ?_;clear hKT KT);(refine hK _ _ _ ?_;clear hK K);(refine Qe ?_;(try simp only [zs]);refine Qk.ret rfl (.inr ⟨[],by decide,by simp,?_⟩);simp [zM])
theorem Qu0{l:List C}{n F:Int}{I:List T ->T ->Int ->Rs T}{J:List T ->T ->T ->Int ->Rs Unit}(hk:Kc l)(hF:F<=20000)(bI:IB l n I)(bJ:KB l n J)(hI:IS l n I F)(hJ:KS l n J F){c:List T}{t:T}{f:Int}(h0:0<=f)(h1:f<=F)(hs:Sub n (l.map C.lv) c t)(hc:Cx c f)(hkk:t.k=2) :
  Sp 167 [.box 0 0,Ts c,Qj t] (iO f l n) (RP l n Qj (Qd6 n t f)):=by
 have h2:f<=20000:=by omega
 have hcl:=hc.len;have hcc:c.length<=1000000:=by omega
 have L1:1<=Ql:=by unfold Ql;omega
 have L2:2<=Ql:=by unfold Ql;omega
 have L3:3<=Ql:=by unfold Ql;omega
 obtain⟨i,hi⟩:∃i,t.ls= [i]:=by
  have h:=(Qht hs.core).2.1;have e:Qn0 n (c.length:Int) (l.map C.lv) t=Qqq n t:=by unfold Qn0;rw [hkk];rfl
  rw [e]at h;unfold Qqq at h;rw [Bool.and_eq_true,Bool.and_eq_true]at h;exact List.length_eq_one_iff.1 (of_decide_eq_true h.1.2)
 have oi:okL i:=hs.ok.ls i (by rw [hi];exact List.mem_singleton.2 rfl);have hEt:Qj t= .agg [.int .i64 t.k, .int .i64 t.n, .int .i64 t.a, .slice [Qn i] .any, .slice (t.ks.map Qj) .any]:=by rw [Qb t,hi];rfl
 have su:=Qw0 i oi.1;have ou:=Qsv i;have hR:Qd6 n t f=if Zc (Qfa i) n=true then .ok (Qiq (Qfa i),f)else .error 15:=by unfold Qd6;rw [hi];rfl
 rw [hR];generalize Qfa i=u at su ou;have ri:=Qfl u n ou.1;have un:=Qhm u;generalize Qiq u=w at un;have hEi:Qn i= .agg [.slice (i.map Wv) .any]:=rfl;have hEu:Qn u= .agg [.slice (u.map Wv) .any]:=rfl;have hEw:=Qb w;simp only [hEi,hEu]at su ri un;rw [hEw]at un;refine RP.of ?_;rw [hEt,hEi];cases hri:Zc u n with
 | true =>
  rw [hri]at ri;rw [if_pos rfl,Qbd w rfl,hEw];have mo:=Qbj 15;unfold iO Cs Ts;refine eN Tryz.func167 rfl (by decide) rfl rfl ?_;(refine sR fun K hK=>?_;(repeat rw [Qa];simp);refine hK _ _ _ ?_;clear hK K);(refine sR fun K hK=>?_;(repeat rw [Qa];simp));refine cXr (su) ?_
  (repeat rw [Qa];simp)
  (refine hK _ _ _ ?_;clear hK K);(refine Qc fun K hK=>?_;refine dR fun KT hKT=>?_;(repeat rw [Qd];simp));refine cYp (ri) ?_;(try simp only [zq]);(repeat rw [Qd];simp);refine cYp (mo) ?_;(try simp only [zq]);(repeat rw [Qd];simp);(refine hKT _ _ _ _ (by kernel_rfl) ?_;clear hKT KT);(refine hK _ _ _ ?_;clear hK K);(refine sR fun K hK=>?_;(repeat rw [Qa];simp));refine cXr (un) ?_
  (repeat rw [Qa];simp)
  (refine hK _ _ _ ?_;clear hK K);(refine Qe ?_;(try simp only [zs]);refine Qk.ret rfl (.inr ⟨[],by decide,by simp,?_⟩);simp [zM])
 | false =>
  rw [hri]at ri;rw [if_neg Bool.false_ne_true,Wh (e:=15) rfl];have mo:=Qba 15;unfold Wq at mo;unfold iO Cs Ts;refine eN Tryz.func167 rfl (by decide) rfl rfl ?_;(refine sR fun K hK=>?_;(repeat rw [Qa];simp);refine hK _ _ _ ?_;clear hK K);(refine sR fun K hK=>?_;(repeat rw [Qa];simp));refine cXr (su) ?_
  (repeat rw [Qa];simp)
  (refine hK _ _ _ ?_;clear hK K);(refine Qc fun K hK=>?_;refine dR fun KT hKT=>?_;(repeat rw [Qd];simp));refine cYp (ri) ?_;(try simp only [zq]);(repeat rw [Qd];simp);refine cYp (mo) ?_;((try simp only [Qt,Qu,Qr,Qw,Wi]);(repeat(refine Wr _ _ _ _ (by kernel_rfl) ?_;simp only [Qr,List.set,List.nil_append,List.cons_append,Nat.reduceAdd]));(try simp only [Qm]));(refine hKT _ _ _ _ (by kernel_rfl) ?_;clear hKT KT);simp [Xi];((try simp only [zs]);refine Qk.pan (.inr ⟨[],by decide,by simp,?_⟩);simp [zM])
theorem Qu1{l:List C}{n F:Int}{I:List T ->T ->Int ->Rs T}{J:List T ->T ->T ->Int ->Rs Unit}(hk:Kc l)(hF:F<=20000)(bI:IB l n I)(bJ:KB l n J)(hI:IS l n I F)(hJ:KS l n J F){c:List T}{t:T}{f:Int}(h0:0<=f)(h1:f<=F)(hs:Sub n (l.map C.lv) c t)(hc:Cx c f)(hkk:t.k=3) :
  Sp 168 [.box 0 0,Ts c,Qj t] (iO f l n) (RP l n Qj (Qfp l t f)):=by
 have h2:f<=20000:=by omega
 have hcl:=hc.len;have hcc:c.length<=1000000:=by omega
 have hEt:=Qb t;have L1:1<=Ql:=by unfold Ql;omega
 have L2:2<=Ql:=by unfold Ql;omega
 have L3:3<=Ql:=by unfold Ql;omega
 obtain⟨bb,ty⟩:=Qwu l hk t.n t.ls hs.ok.ll (fun b hb=>(hs.ok.ls b hb).1);obtain⟨w,hw⟩:∃w,Qoe l t.n t.ls=w:=⟨_,rfl⟩;rw [hw]at ty;have hEw:=Qb w;rw [hEw]at ty;unfold Cs at ty;refine RP.of ?_;generalize hQ:RQ l n Qj (Qfp l t f)=Q;rw [hEt];unfold iO Cs Ts;refine eN Tryz.func168 rfl (by decide) rfl rfl ?_;(refine sR fun K hK=>?_;(repeat rw [Qa];simp);refine hK _ _ _ ?_;clear hK K);(refine Qc fun K hK=>?_;refine dR fun KT hKT=>?_;(repeat rw [Qd];simp));refine cYp (ty) ?_;(try simp only [zq]);(repeat rw [Qd];simp);(refine hKT _ _ _ _ (by kernel_rfl) ?_;clear hKT KT);(refine hK _ _ _ ?_;clear hK K);(refine sR fun K hK=>?_;(repeat rw [Qa];simp);refine hK _ _ _ ?_;clear hK K);have hq:=hQ.symm.trans (Qbd (w) (g:=f) (by simp only [Rs.next_ok,Rs.next_err,↓reduceIte,Qfp];rw [hw]));simp only [hEw]at hq;subst hq;clear hQ;(refine Qe ?_;(try simp only [zs]);refine Qk.ret rfl (.inr ⟨[],by decide,by simp,?_⟩);simp [zM])
theorem r_fin{l:List C}{n F:Int}{I:List T ->T ->Int ->Rs T}{J:List T ->T ->T ->Int ->Rs Unit}(hk:Kc l)(hF:F<=20000)(bI:IB l n I)(bJ:KB l n J)(hI:IS l n I F)(hJ:KS l n J F){c:List T}{t:T}{f:Int}(h0:0<=f)(h1:f<=F)(hs:Sub n (l.map C.lv) c t)(hc:Cx c f)(hkk:t.k=22) :
  Sp 177 [.box 0 0,Ts c,Qj t] (iO f l n) (RP l n Qj (.ok (Qiq [],f))):=by
 have h2:f<=20000:=by omega
 have hcl:=hc.len;have hcc:c.length<=1000000:=by omega
 have hEt:=Qb t;have un:=Qhm [];obtain⟨w,hw⟩:∃w,Qiq []=w:=⟨_,rfl⟩;rw [hw]at un;have hEw:=Qb w;rw [hEw,show Qn []= .agg [.slice [] .any] from rfl]at un;refine RP.of ?_;generalize hQ:RQ l n Qj ((.ok (Qiq [],f):Rs T))=Q;rw [hEt];unfold iO Cs Ts;refine eN Tryz.func177 rfl (by decide) rfl rfl ?_;(refine sR fun K hK=>?_;(repeat rw [Qa];simp);refine hK _ _ _ ?_;clear hK K);(refine sR fun K hK=>?_;(repeat rw [Qa];simp));refine cXr (un) ?_
 (repeat rw [Qa];simp)
 have hq:=hQ.symm.trans (Qbd w (g:=f) (by rw [hw]));simp only [hEw]at hq;subst hq;clear hQ;(refine hK _ _ _ ?_;clear hK K);(refine Qe ?_;(try simp only [zs]);refine Qk.ret rfl (.inr ⟨[],by decide,by simp,?_⟩);simp [zM])
theorem r_elem{l:List C}{n F:Int}{I:List T ->T ->Int ->Rs T}{J:List T ->T ->T ->Int ->Rs Unit}(hk:Kc l)(hF:F<=20000)(bI:IB l n I)(bJ:KB l n J)(hI:IS l n I F)(hJ:KS l n J F){c:List T}{t:T}{f:Int}(h0:0<=f)(h1:f<=F)(hs:Sub n (l.map C.lv) c t)(hc:Cx c f)(hkk:t.k=23) :
  Sp 178 [.box 0 0,Ts c,Qj t] (iO f l n) (RP l n Qj (.ok (Qje t.a,f))):=by
 have h2:f<=20000:=by omega
 have hcl:=hc.len;have hcc:c.length<=1000000:=by omega
 have hEt:=Qb t;obtain⟨w,hw⟩:∃w,Qje t.a=w:=⟨_,rfl⟩;have hEw:Qj w= .agg [.int .i64 22, .int .i64 t.a, .int .i64 0, .slice [] .any, .slice [] .any]:=by rw [<- hw];unfold Qje;rw [Qe4];rfl
 refine RP.of ?_;generalize hQ:RQ l n Qj ((.ok (Qje t.a,f):Rs T))=Q;rw [hEt];unfold iO Cs Ts;refine eN Tryz.func178 rfl (by decide) rfl rfl ?_;(refine sR fun K hK=>?_;(repeat rw [Qa];simp);refine hK _ _ _ ?_;clear hK K);(refine sR fun K hK=>?_;(repeat rw [Qa];simp);refine hK _ _ _ ?_;clear hK K);have hq:=hQ.symm.trans (Qbd w (g:=f) (by rw [hw]));simp only [hEw]at hq;subst hq;clear hQ;(refine Qe ?_;(try simp only [zs]);refine Qk.ret rfl (.inr ⟨[],by decide,by simp,?_⟩);simp [zM])
theorem Wbv{l:List C}{n F:Int}{I:List T ->T ->Int ->Rs T}{J:List T ->T ->T ->Int ->Rs Unit}(hk:Kc l)(hF:F<=20000)(bI:IB l n I)(bJ:KB l n J)(hI:IS l n I F)(hJ:KS l n J F){c:List T}{t:T}{f:Int}(h0:0<=f)(h1:f<=F)(hs:Sub n (l.map C.lv) c t)(hc:Cx c f)(hkk:t.k=14) :
  Sp 173 [.box 0 0,Ts c,Qj t] (iO f l n) (RP l n Qj (halfR l I c t f)):=by
 have h2:f<=20000:=by omega
 have hcl:=hc.len;have hcc:c.length<=1000000:=by omega
 have hl:=hs.ks hkk (m:=1);obtain⟨x0,hks⟩:=Wdz hl;have z0:t.kid 0=x0:=by unfold T.kid;rw [hks];rfl
 have hEt:Qj t= .agg [.int .i64 t.k, .int .i64 t.n, .int .i64 t.a, .slice (t.ls.map Qn) .any, .slice [Qj x0] .any]:=by rw [Qb t,hks];rfl
 have k0:=hs.kid (i:=0) (by omega) (by rw [hkk];rfl);rw [z0]at k0;have hE0:=Qb x0;have L1:1<=Ql:=by unfold Ql;omega
 have L2:2<=Ql:=by unfold Ql;omega
 have L3:3<=Ql:=by unfold Ql;omega
 refine RP.of ?_;generalize hQ:RQ l n Qj (halfR l I c t f)=Q;rw [hEt];simp only [hE0];unfold iO Cs Ts;refine eN Tryz.func173 rfl (by decide) rfl rfl ?_;(refine sR fun K hK=>?_;(repeat rw [Qa];simp);refine hK _ _ _ ?_;clear hK K);(refine sR fun K hK=>?_;(repeat rw [Qa];simp));rcases Qv l n Qj (I c x0 f)with ⟨s,f1,e1,q1⟩ | ⟨ee,e1,q1⟩
 rotate_left
 ·have hh:=hI c x0 f h0 h1 k0 hc;rw [q1]at hh;have hq:=hQ.symm.trans (Wh (e:=ee) (by simp only [e1,Rs.next_ok,Rs.next_err,↓reduceIte,halfR,z0,hkk]));subst hq;clear hQ;simp only [hE0]at hh;unfold iO Cs Wq at hh
  try unfold Ts at hh
  refine cXg [0,1] (hh) ?_;simp [zU];((try simp only [zs]);refine Qk.pan (.inr ⟨[],by decide,by simp,?_⟩);simp [zM])
 have cc1:=hI c x0 f h0 h1 k0 hc;rw [q1]at cc1;obtain⟨a1,b1,d1⟩:=bI _ _ _ _ _ h0 h2 k0 hc e1;have hEs:=Qb s;simp only [hE0,hEs]at cc1;unfold iO Cs at cc1
 try unfold Ts at cc1
 refine cXf [0,1] (cc1) ?_;simp [zU]
 (repeat rw [Qa];simp)
 clear cc1 q1;rcases Qv l n asD (asR l s 12 9 f1)with ⟨v,f2,e2,q2⟩ | ⟨ee,e2,q2⟩
 rotate_left
 ·have hh:=Qan hk (n:=n) (k:=12) (e:=9) a1 (by omega) (d1.okY (by omega));rw [q2]at hh;have hq:=hQ.symm.trans (Wh (e:=ee) (by simp only [e1,e2,Rs.next_ok,Rs.next_err,↓reduceIte,halfR,z0,hkk]));subst hq;clear hQ;simp only [hEs]at hh;unfold iO Cs Wq at hh
  try unfold Ts at hh
  refine cXg [0,1] (hh) ?_;simp [zU];((try simp only [zs]);refine Qk.pan (.inr ⟨[],by decide,by simp,?_⟩);simp [zM])
 have cc2:=Qan hk (n:=n) (k:=12) (e:=9) a1 (by omega) (d1.okY (by omega));rw [q2]at cc2;obtain⟨a2,b2,d2,d3, -⟩:=Qbe hk.ok a1 (d1.okY h2) e2;obtain⟨va,vb⟩:=v;have hEva:=Qb va;have hEvb:=Qb vb;unfold asD at cc2;dsimp only at cc2;simp only [hEs,hEva,hEvb]at cc2;unfold iO Cs at cc2
 try unfold Ts at cc2
 refine cXf [0,1] (cc2) ?_;simp [zU]
 (repeat rw [Qa];simp)
 clear cc2 q2;(refine hK _ _ _ ?_;clear hK K);refine Qc fun K1 hK1=>?_
 (refine sR fun K hK=>?_;(repeat rw [Qa];simp [hkk]);refine hK _ _ _ ?_;clear hK K);refine pT rfl ?_;(refine sR fun K hK=>?_;(repeat rw [Qa];simp);refine hK _ _ _ ?_;clear hK K);have hq:=hQ.symm.trans (Qbd (va) (g:=f2) (by simp only [e1,e2,Rs.next_ok,Rs.next_err,↓reduceIte,halfR,z0,hkk]));simp only [hEva]at hq;subst hq;clear hQ;(refine Qe ?_;(try simp only [zs]);refine Qk.ret rfl (.inr ⟨[],by decide,by simp,?_⟩);simp [zM])
theorem Wbu{l:List C}{n F:Int}{I:List T ->T ->Int ->Rs T}{J:List T ->T ->T ->Int ->Rs Unit}(hk:Kc l)(hF:F<=20000)(bI:IB l n I)(bJ:KB l n J)(hI:IS l n I F)(hJ:KS l n J F){c:List T}{t:T}{f:Int}(h0:0<=f)(h1:f<=F)(hs:Sub n (l.map C.lv) c t)(hc:Cx c f)(hkk:t.k=15) :
  Sp 173 [.box 0 0,Ts c,Qj t] (iO f l n) (RP l n Qj (halfR l I c t f)):=by
 have h2:f<=20000:=by omega
 have hcl:=hc.len;have hcc:c.length<=1000000:=by omega
 have hl:=hs.ks hkk (m:=1);obtain⟨x0,hks⟩:=Wdz hl;have z0:t.kid 0=x0:=by unfold T.kid;rw [hks];rfl
 have hEt:Qj t= .agg [.int .i64 t.k, .int .i64 t.n, .int .i64 t.a, .slice (t.ls.map Qn) .any, .slice [Qj x0] .any]:=by rw [Qb t,hks];rfl
 have k0:=hs.kid (i:=0) (by omega) (by rw [hkk];rfl);rw [z0]at k0;have hE0:=Qb x0;have L1:1<=Ql:=by unfold Ql;omega
 have L2:2<=Ql:=by unfold Ql;omega
 have L3:3<=Ql:=by unfold Ql;omega
 refine RP.of ?_;generalize hQ:RQ l n Qj (halfR l I c t f)=Q;rw [hEt];simp only [hE0];unfold iO Cs Ts;refine eN Tryz.func173 rfl (by decide) rfl rfl ?_;(refine sR fun K hK=>?_;(repeat rw [Qa];simp);refine hK _ _ _ ?_;clear hK K);(refine sR fun K hK=>?_;(repeat rw [Qa];simp));rcases Qv l n Qj (I c x0 f)with ⟨s,f1,e1,q1⟩ | ⟨ee,e1,q1⟩
 rotate_left
 ·have hh:=hI c x0 f h0 h1 k0 hc;rw [q1]at hh;have hq:=hQ.symm.trans (Wh (e:=ee) (by simp only [e1,Rs.next_ok,Rs.next_err,↓reduceIte,halfR,z0,hkk]));subst hq;clear hQ;simp only [hE0]at hh;unfold iO Cs Wq at hh
  try unfold Ts at hh
  refine cXg [0,1] (hh) ?_;simp [zU];((try simp only [zs]);refine Qk.pan (.inr ⟨[],by decide,by simp,?_⟩);simp [zM])
 have cc1:=hI c x0 f h0 h1 k0 hc;rw [q1]at cc1;obtain⟨a1,b1,d1⟩:=bI _ _ _ _ _ h0 h2 k0 hc e1;have hEs:=Qb s;simp only [hE0,hEs]at cc1;unfold iO Cs at cc1
 try unfold Ts at cc1
 refine cXf [0,1] (cc1) ?_;simp [zU]
 (repeat rw [Qa];simp)
 clear cc1 q1;rcases Qv l n asD (asR l s 12 9 f1)with ⟨v,f2,e2,q2⟩ | ⟨ee,e2,q2⟩
 rotate_left
 ·have hh:=Qan hk (n:=n) (k:=12) (e:=9) a1 (by omega) (d1.okY (by omega));rw [q2]at hh;have hq:=hQ.symm.trans (Wh (e:=ee) (by simp only [e1,e2,Rs.next_ok,Rs.next_err,↓reduceIte,halfR,z0,hkk]));subst hq;clear hQ;simp only [hEs]at hh;unfold iO Cs Wq at hh
  try unfold Ts at hh
  refine cXg [0,1] (hh) ?_;simp [zU];((try simp only [zs]);refine Qk.pan (.inr ⟨[],by decide,by simp,?_⟩);simp [zM])
 have cc2:=Qan hk (n:=n) (k:=12) (e:=9) a1 (by omega) (d1.okY (by omega));rw [q2]at cc2;obtain⟨a2,b2,d2,d3, -⟩:=Qbe hk.ok a1 (d1.okY h2) e2;obtain⟨va,vb⟩:=v;have hEva:=Qb va;have hEvb:=Qb vb;unfold asD at cc2;dsimp only at cc2;simp only [hEs,hEva,hEvb]at cc2;unfold iO Cs at cc2
 try unfold Ts at cc2
 refine cXf [0,1] (cc2) ?_;simp [zU]
 (repeat rw [Qa];simp)
 clear cc2 q2;(refine hK _ _ _ ?_;clear hK K);refine Qc fun K1 hK1=>?_
 (refine sR fun K hK=>?_;(repeat rw [Qa];simp [hkk]);refine hK _ _ _ ?_;clear hK K);refine pF rfl ?_;refine Qg (hK1 _ _ _ ?_);clear hK1 K1;have ho:=Ze 14 [x0];obtain⟨p,hp⟩:∃p,ofT 14 [x0]=p:=⟨_,rfl⟩;have op:okT p:=by rw [<- hp];exact Wdw Qc4 k0.ok
 have pp:p.pot<=100000:=by rw [<- hp];have:=pot_of1 14 x0;have:=k0.pot;omega
 have hEp:=Qb p;simp only [hp,List.map_cons,List.map_nil,hE0,hEp]at ho;(refine Qc fun K hK=>?_;refine dR fun KT hKT=>?_;(repeat rw [Qd];simp [L1]));refine Xt.pureD Qf (ho) ?_ (by simp [D.deeps,D.deep,D.fgts,D.fgt]) (by simp [D.pures,D.pure,Cp.free,D.pures_map]) (by simp [Out.pure,D.pure,D.pures,Cp.free,D.pures_map]);(try simp only [zq]);(repeat rw [Qd];simp);rcases Qv l n Qj (Qqc vb p f2)with ⟨w,f3,e3,q3⟩ | ⟨ee,e3,q3⟩
 rotate_left
 ·have hh:=Qbv (l:=l) (n:=n) (f:=f2) (t:=vb) (a:=p) (by omega) ⟨d3.1,d3.pm (by omega)⟩ ⟨op,by unfold PM;omega⟩;rw [q3]at hh;have hq:=hQ.symm.trans (Wh (e:=ee) (by simp only [e1,e2,e3,Rs.next_ok,Rs.next_err,↓reduceIte,halfR,z0,hkk,hp,if_neg (show ¬ (15:Int)=14 by omega)]));subst hq;clear hQ;simp only [hEvb,hEp]at hh;unfold iO Cs Wq at hh
  try unfold Ts at hh
  refine cYo [0,1] true false (hh) (fun o h e=>e) ?_;simp [zU];((try simp only [Qt,Qu,Qr,Qw,Wi]);(repeat(refine Wr _ _ _ _ (by kernel_rfl) ?_;simp only [Qr,List.set,List.nil_append,List.cons_append,Nat.reduceAdd]));(try simp only [Qm]));(refine hKT _ _ _ _ (by kernel_rfl) ?_;clear hKT KT);simp [Xi];((try simp only [zs]);refine Qk.pan (.inr ⟨[],by decide,by simp,?_⟩);simp [zM])
 have cc3:=Qbv (l:=l) (n:=n) (f:=f2) (t:=vb) (a:=p) (by omega) ⟨d3.1,d3.pm (by omega)⟩ ⟨op,by unfold PM;omega⟩;rw [q3]at cc3;have hEw:=Qb w;simp only [hEvb,hEp,hEw]at cc3;unfold iO Cs at cc3
 try unfold Ts at cc3
 refine cYo [0,1] true true (cc3) (fun o h e=>e) ?_;simp [zU];(try simp only [zq]);(repeat rw [Qd];simp);clear cc3 q3;have hq:=hQ.symm.trans (Qbd (w) (g:=f3) (by simp only [e1,e2,e3,Rs.next_ok,Rs.next_err,↓reduceIte,halfR,z0,hkk,hp,if_neg (show ¬ (15:Int)=14 by omega)]));simp only [hEw]at hq;subst hq;clear hQ;(refine hKT _ _ _ _ (by kernel_rfl) ?_;clear hKT KT);(refine hK _ _ _ ?_;clear hK K);(refine Qe ?_;(try simp only [zs]);refine Qk.ret rfl (.inr ⟨[],by decide,by simp,?_⟩);simp [zM])
end
end Go.Proofs.YtgloldepdhgfaaaGreatDoor
