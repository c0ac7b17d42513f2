/-
  MBJr: the texts Jr, one behind the other.
-/
import Derived.Test.YtgloldepdhgfaaaGreatDoorCards
import Derived.Test.YtgloldepdhgfaaaGreatDoorTie
import Derived.Deep.DeepHandedRow
import Derived.Test.YtgloldepdhgfaaaGreatDoorMB7
namespace Go.Proofs.YtgloldepdhgfaaaGreatDoor.cenvMore
set_option linter.unusedSimpArgs false
set_option linter.unusedVariables false
open Go.ChangeShapes Go.WideShapes Go.ChangeAt Go.RowKit
set_option linter.unusedVariables false
theorem own:ownKnob Tryz.prog.godebug=none:=by kernel_rfl
set_option maxRecDepth 100000 in
theorem Wes(H:Type)(enc:TypeId×Value ->H)(W:World)(base:Nat)(args:Array Value)(ds gs:List (DataW H))(before:List MemPlace)
  (hval:∀(j:Nat) t v,Tryz.f6.params[j]?=some t ->args[j]?=some v ->Value.okWide Tryz.prog W .any base t v)
  (hW:DataW.Whole enc Tryz.prog Tryz.f6.params.toList Rows.cenvMoreSpec.vars false W args.toList ds gs before) (hk:Rows.uptoSmall H (ds++gs)=true) (hL:laidMetH Tryz.prog Rows.cenvMoreUptoRow.laid W) :
  Calls Tryz.prog 6 args W fun e W'=>∃v,e= .returned v/\Rows.cenvMoreSpec.post enc Tryz.prog Tryz.f6 false true false false W args v W':=by
 have hW':=hW;obtain⟨p,q,hA0,hV,rfl,hfz,hnd⟩:=hW;have hA:DataW.TrodAll enc Tryz.prog W 0 (fun _=>true) true Tryz.f6.params.toList args.toList ds p:=hA0;rw[Tryz.params6]at hA hval;obtain⟨v0,vs0,d0,ds0,p0,q0,hargs,rfl,rfl,e0,r0⟩:=trodAll_cons hA;obtain⟨v1,vs1,d1,ds1,p1,q1,rfl,rfl,rfl,e1,r1⟩:=trodAll_cons r0;obtain⟨v2,vs2,d2,ds2,p2,q2,rfl,rfl,rfl,e2,r2⟩:=trodAll_cons r1;obtain⟨v3,vs3,d3,ds3,p3,q3,rfl,rfl,rfl,e3,r3⟩:=trodAll_cons r2;obtain⟨rfl,rfl,rfl⟩:=trodAll_nil r3;obtain rfl:args= #[v0,v1,v2,v3]:=by cases args;simp_all
 obtain⟨rfl,rfl⟩:=trodVars_none hV;have hb:Rows.uptoBulkAll [d0,d1,d2,d3]<=1048576:=by have:=of_decide_eq_true hk;simpa using this
 simp only[Rows.uptoBulkAll]at hb;obtain⟨x0,hx0,h0⟩:=Wfu (by omega) (hval 0 _ v0 rfl rfl) e0;obtain⟨x1,hx1,h1⟩:=Wfu (by omega) (hval 1 _ v1 rfl rfl) e1;obtain⟨x2,hx2,h2⟩:=argC (by omega) (hval 2 _ v2 rfl rfl) e2;obtain⟨x3,hx3,h3⟩:=argI (hval 3 _ v3 rfl rfl) e3;refine(Qs6 (Qyr hL) (vs:= [v0,v1,v2,v3]) (Qsj (f:=x3) h0.1 h1.1 h2.1 (Qw9 (by omega) h0.2.1 h1.2.1 h2.2) (by unfold Ql;omega)) ?_).mono ?_
 ·rw[Qs,Qs,Qs,Qs,Wu];exact⟨hx0,hx1,hx2,hx3,rfl⟩
 ·rintro e W' ⟨rfl,hbel⟩;refine⟨_,rfl,Wdj (tb:=4) laidOut (by kernel_rfl) rfl rfl (fun t ht=>?_) hW' (fun _=>rfl) hbel⟩;rw[Tryz.params6]at ht;have hall:(#[22,22,50,3]:Array Nat).toList.all (fun t=>Tryz.prog.readableRec t && decide (t<Tryz.prog.types.size))=true:=by kernel_rfl
  have:=List.all_eq_true.1 hall t ht;simpa using this
theorem Wd8(os:Os):laidMet Tryz.prog Rows.cenvMoreUptoRow.laid ((laidWorld os).forCall (fun _ _=>0) ⟨#[],#[.slice none 0 0, .slice none 0 0, .agg #[.int .i64 0, .int .i64 0, .int .i64 0, .int .i64 0, .slice none 0 0, .slice none 0 0, .bool false, .int .i64 0, .int .i64 0, .int .i64 0, .slice none 0 0, .slice none 0 0], .int .i64 0], []⟩).memory :=
 laidMet_of_run' 8 (by kernel_rfl) (by kernel_rfl)
def wds(H:Type):List (DataW H):= [.nil, .nil, .agg [.lit (.int .i64 0), .agg [.lit (.int .i64 0), .lit (.int .i64 0), .lit (.int .i64 0), .nil, .nil], .lit (.bool false), .agg [.lit (.int .i64 0), .lit (.int .i64 0), .lit (.int .i64 0), .nil, .nil]], .lit (.int .i64 0)]
theorem reads(os:Os){H:Type}(enc:TypeId×Value ->H):∃places,DataW.whole enc Tryz.prog ((laidWorld os).forCall (fun _ _=>0) ⟨#[],#[.slice none 0 0, .slice none 0 0, .agg #[.int .i64 0, .int .i64 0, .int .i64 0, .int .i64 0, .slice none 0 0, .slice none 0 0, .bool false, .int .i64 0, .int .i64 0, .int .i64 0, .slice none 0 0, .slice none 0 0], .int .i64 0], []⟩).memory Tryz.f6.params.toList Rows.cenvMoreSpec.vars false (#[.slice none 0 0, .slice none 0 0, .agg #[.int .i64 0, .int .i64 0, .int .i64 0, .int .i64 0, .slice none 0 0, .slice none 0 0, .bool false, .int .i64 0, .int .i64 0, .int .i64 0, .slice none 0 0, .slice none 0 0], .int .i64 0]:Array Value).toList 8=some (wds H, [],places) :=
 ⟨[],by kernel_rfl⟩
set_option maxRecDepth 100000 in
theorem Qwl(os:Os)(started:os.Started)(H:Type)(enc:TypeId×Value ->H)(F:Stop.Interp) :
  ReturnsInHanded {} Tryz.checked os 6 .any ((Rows.OpenSpec.upto Rows.cenvMoreSpec).preRow enc Tryz.prog Tryz.f6 Rows.cenvMoreUptoRow.domain false Rows.cenvMoreUptoRow.laid) (((Rows.OpenSpec.upto Rows.cenvMoreSpec).at F).post enc Tryz.prog Tryz.f6 false true false false):=by
 obtain⟨places,hx⟩:=reads os enc;refine returnsInHanded_of_row (C:=Tryz.checked) (s:=Rows.OpenSpec.upto Rows.cenvMoreSpec) own started (by kernel_rfl) Tryz.func6
  (witness_row_at (enc:=enc) (C:=Tryz.checked) false (laidWorld os) #[.slice none 0 0, .slice none 0 0, .agg #[.int .i64 0, .int .i64 0, .int .i64 0, .int .i64 0, .slice none 0 0, .slice none 0 0, .bool false, .int .i64 0, .int .i64 0, .int .i64 0, .slice none 0 0, .slice none 0 0], .int .i64 0] rfl (by kernel_rfl) (by kernel_rfl) (by kernel_rfl)
   (OpenSpec.preRow_of_cond 8 hx (by kernel_rfl) (fun k hk=>by cases hk;kernel_rfl) (by kernel_rfl) (Wd8 os))) ?_
 intro W base args ds gs before hval hW _ hcond _ hL _ _;exact Wes H enc W base args ds gs before hval hW (hcond _ rfl) hL
theorem Wc1:Rows.CenvMoreUptoSaid :=
 OpenClaim.holds_of_cond 6 Tryz.f6 rfl rfl rfl rfl rfl rfl rfl ⟨rfl,rfl,rfl,rfl,rfl⟩ rfl rfl rfl rfl rfl (by kernel_rfl) Tryz.func6 (by kernel_rfl)
  (of_decide_eq_true (by kernel_rfl)) (by unfold Func.isWrapper;first | (rw[if_pos (by decide +kernel)];kernel_rfl) | (rw[if_neg (by decide +kernel)];exact⟨rfl,rfl⟩))
  (fun os started H enc _ F=>by rw[OpenClaim.pre_eq_preRow];exact Qwl os started H enc F)
theorem plain(f:FuncId)(fn:Func)(hf:Tryz.pinned.checked.prog.funcNamed "spandrel/spandrellaw10.CenvMore" = some f)(hfn:Tryz.pinned.checked.prog.funcs[f]?=some fn) :
  true=Tryz.pinned.checked.prog.looks []/\∀(j:Nat) t,fn.params[j]?=some t ->Tryz.pinned.checked.prog.wantsStandIn t=false:=by
 obtain rfl:f=6:=Option.some.inj ((show Tryz.prog.funcNamed "spandrel/spandrellaw10.CenvMore" = some 6 by kernel_rfl).symm.trans hf) |>.symm
 obtain rfl:fn=Tryz.f6:=(Option.some.inj (Tryz.func6.symm.trans hfn)).symm;refine⟨by kernel_rfl,fun j t ht=>?_⟩;rw[Tryz.params6]at ht;have hall:(#[22,22,50,3]:Array Nat).toList.all (fun t=>Tryz.prog.wantsStandIn t == false)=true:=by kernel_rfl
 have:=List.all_eq_true.1 hall t (by simpa using Array.mem_of_getElem? ht);exact eq_of_beq this
theorem cardUpto:Rows.CenvMoreUptoCardSaid :=
 Claim7.holds_tied_plain_at .later [] _ _ _ _ Wc1 (fun _ h=>by cases h) (by kernel_rfl) (fun _ h=>by cases h) cenvMoreUpto_row_tie rfl ⟨rfl,rfl⟩ (by kernel_rfl) rfl plain (by kernel_rfl)
end Go.Proofs.YtgloldepdhgfaaaGreatDoor.cenvMore
