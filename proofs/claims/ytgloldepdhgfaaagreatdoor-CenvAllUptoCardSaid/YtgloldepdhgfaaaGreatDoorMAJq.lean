/-
  MAJq: the texts Jq, one behind the other.
-/
import Derived.Test.YtgloldepdhgfaaaGreatDoorCards
import Derived.Test.YtgloldepdhgfaaaGreatDoorTie
import Derived.Deep.DeepHandedRow
import Derived.Test.YtgloldepdhgfaaaGreatDoorMA7
namespace Go.Proofs.YtgloldepdhgfaaaGreatDoor.cenvAll
set_option linter.unusedSimpArgs false
set_option linter.unusedVariables false
open Go.ChangeShapes Go.WideShapes Go.ChangeAt Go.RowKit
set_option linter.unusedVariables false
theorem own:ownKnob Tryz.prog.godebug=none:=by kernel_rfl
set_option maxRecDepth 100000 in
theorem Wdb(H:Type)(enc:TypeId×Value ->H)(W:World)(base:Nat)(args:Array Value)(ds gs:List (DataW H))(before:List MemPlace)
  (hval:∀(j:Nat) t v,Tryz.f5.params[j]?=some t ->args[j]?=some v ->Value.okWide Tryz.prog W .any base t v)
  (hW:DataW.Whole enc Tryz.prog Tryz.f5.params.toList Rows.cenvAllSpec.vars false W args.toList ds gs before) (hk:Rows.uptoSmall H (ds++gs)=true) (hL:laidMetH Tryz.prog Rows.cenvAllUptoRow.laid W) :
  Calls Tryz.prog 5 args W fun e W'=>∃v,e= .returned v/\Rows.cenvAllSpec.post enc Tryz.prog Tryz.f5 false true false false W args v W':=by
 have hW':=hW;obtain⟨p,q,hA0,hV,rfl,hfz,hnd⟩:=hW;have hA:DataW.TrodAll enc Tryz.prog W 0 (fun _=>true) true Tryz.f5.params.toList args.toList ds p:=hA0;rw [Tryz.params5]at hA hval;obtain⟨v0,vs0,d0,ds0,p0,q0,hargs,rfl,rfl,e0,r0⟩:=trodAll_cons hA;obtain⟨v1,vs1,d1,ds1,p1,q1,rfl,rfl,rfl,e1,r1⟩:=trodAll_cons r0;obtain⟨rfl,rfl,rfl⟩:=trodAll_nil r1;obtain rfl:args= #[v0,v1]:=by cases args;simp_all
 obtain⟨rfl,rfl⟩:=trodVars_none hV;have hb:Rows.uptoBulkAll [d0,d1]<=1048576:=by have:=of_decide_eq_true hk;simpa using this
 simp only [Rows.uptoBulkAll]at hb;obtain⟨x0,hx0,h0⟩:=argCs (by omega) (hval 0 _ v0 rfl rfl) e0;obtain⟨x1,hx1,h1⟩:=argI (hval 1 _ v1 rfl rfl) e1;refine(Qr7 (Qxk hL) (vs:= [v0,v1]) (Qwc (f:=x1) h0.1 h0.2) ?_).mono ?_
 ·rw [Qs,Qs,Wu];exact⟨hx0,hx1,rfl⟩
 ·rintro e W' ⟨rfl,hbel⟩;refine⟨_,rfl,Wb0 (tb:=4) laidOut (by kernel_rfl) rfl rfl (fun t ht=>?_) hW' (fun _=>rfl) hbel⟩;rw [Tryz.params5]at ht;have hall:(#[22,3]:Array Nat).toList.all (fun t=>Tryz.prog.readableRec t && decide (t<Tryz.prog.types.size))=true:=by kernel_rfl
  have:=List.all_eq_true.1 hall t ht;simpa using this
theorem Wcq(os:Os):laidMet Tryz.prog Rows.cenvAllUptoRow.laid ((laidWorld os).forCall (fun _ _=>0) ⟨#[],#[.slice none 0 0, .int .i64 0], []⟩).memory :=
 laidMet_of_run' 8 (by kernel_rfl) (by kernel_rfl)
def wds(H:Type):List (DataW H):= [.nil, .lit (.int .i64 0)]
theorem reads(os:Os){H:Type}(enc:TypeId×Value ->H):∃places,DataW.whole enc Tryz.prog ((laidWorld os).forCall (fun _ _=>0) ⟨#[],#[.slice none 0 0, .int .i64 0], []⟩).memory Tryz.f5.params.toList Rows.cenvAllSpec.vars false (#[.slice none 0 0, .int .i64 0]:Array Value).toList 8=some (wds H, [],places) :=
 ⟨[],by kernel_rfl⟩
set_option maxRecDepth 100000 in
theorem Qve(os:Os)(started:os.Started)(H:Type)(enc:TypeId×Value ->H)(F:Stop.Interp) :
  ReturnsInHanded {} Tryz.checked os 5 .any ((Rows.OpenSpec.upto Rows.cenvAllSpec).preRow enc Tryz.prog Tryz.f5 Rows.cenvAllUptoRow.domain false Rows.cenvAllUptoRow.laid) (((Rows.OpenSpec.upto Rows.cenvAllSpec).at F).post enc Tryz.prog Tryz.f5 false true false false):=by
 obtain⟨places,hx⟩:=reads os enc;refine returnsInHanded_of_row (C:=Tryz.checked) (s:=Rows.OpenSpec.upto Rows.cenvAllSpec) own started (by kernel_rfl) Tryz.func5
  (witness_row_at (enc:=enc) (C:=Tryz.checked) false (laidWorld os) #[.slice none 0 0, .int .i64 0] rfl (by kernel_rfl) (by kernel_rfl) (by kernel_rfl)
   (OpenSpec.preRow_of_cond 8 hx (by kernel_rfl) (fun k hk=>by cases hk;kernel_rfl) (by kernel_rfl) (Wcq os))) ?_
 intro W base args ds gs before hval hW _ hcond _ hL _ _;exact Wdb H enc W base args ds gs before hval hW (hcond _ rfl) hL
theorem Wbj:Rows.CenvAllUptoSaid :=
 OpenClaim.holds_of_cond 5 Tryz.f5 rfl rfl rfl rfl rfl rfl rfl ⟨rfl,rfl,rfl,rfl,rfl⟩ rfl rfl rfl rfl rfl (by kernel_rfl) Tryz.func5 (by kernel_rfl)
  (of_decide_eq_true (by kernel_rfl)) (by unfold Func.isWrapper;first | (rw [if_pos (by decide +kernel)];kernel_rfl) | (rw [if_neg (by decide +kernel)];exact⟨rfl,rfl⟩))
  (fun os started H enc _ F=>by rw [OpenClaim.pre_eq_preRow];exact Qve os started H enc F)
theorem plain(f:FuncId)(fn:Func)(hf:Tryz.pinned.checked.prog.funcNamed "spandrel/spandrellaw10.CenvAll" = some f)(hfn:Tryz.pinned.checked.prog.funcs[f]?=some fn) :
  true=Tryz.pinned.checked.prog.looks []/\∀(j:Nat) t,fn.params[j]?=some t ->Tryz.pinned.checked.prog.wantsStandIn t=false:=by
 obtain rfl:f=5:=Option.some.inj ((show Tryz.prog.funcNamed "spandrel/spandrellaw10.CenvAll" = some 5 by kernel_rfl).symm.trans hf) |>.symm
 obtain rfl:fn=Tryz.f5:=(Option.some.inj (Tryz.func5.symm.trans hfn)).symm;refine⟨by kernel_rfl,fun j t ht=>?_⟩;rw [Tryz.params5]at ht;have hall:(#[22,3]:Array Nat).toList.all (fun t=>Tryz.prog.wantsStandIn t == false)=true:=by kernel_rfl
 have:=List.all_eq_true.1 hall t (by simpa using Array.mem_of_getElem? ht);exact eq_of_beq this
theorem cardUpto:Rows.CenvAllUptoCardSaid :=
 Claim7.holds_tied_plain_at .later [] _ _ _ _ Wbj (fun _ h=>by cases h) (by kernel_rfl) (fun _ h=>by cases h) cenvAllUpto_row_tie rfl ⟨rfl,rfl⟩ (by kernel_rfl) rfl plain (by kernel_rfl)
end Go.Proofs.YtgloldepdhgfaaaGreatDoor.cenvAll
