/-
  MB2: the texts Dev Dwp Dcode Dspec Ddraw Dfrz Ddrop Dren Dobj Ddef Dle Drng Denc Dglob Dfor Tcl Tbi, one behind the other.
-/
import Derived.Lib.MinMax
import Derived.Defers
import Derived.Recover
import Derived.Test.YtgloldepdhgfaaaGreatDoorMB1
namespace Go.Proofs.YtgloldepdhgfaaaGreatDoor
set_option linter.unusedSimpArgs false
set_option linter.unusedVariables false
open Go.RowKit
section
variable {P : Program} {G : Nat -> Option D} {ρ : Rho} {w : World} {H h : Nat -> HO} {T : TypeId -> Ty} {v : Operand -> Value} {e : Operand -> D} {o : Oper} {nx : Nat} {d : D} {rd : List Nat} {up : List (Nat × HO)}
theorem Qc0{x:HO}(h:Wj x=true):x= .free:=by cases x <;> first | rfl | cases h
theorem Wea{x:HO}(h:Xf x=true):x= .tok:=by cases x <;> first | rfl | cases h
theorem Qcj{α:Type}{a:Array α}{x:α}(h:a.toList= [x]):a= #[x]:=by apply Array.ext';simpa using h
theorem Qaa{α:Type}{a:Array α}{x y:α}(h:a.toList= [x,y]):a= #[x,y]:=by apply Array.ext';simpa using h
theorem Qnw{t:TypeId}{ms:Array (String×TypeId)}(h:P.underlying t=some (.interface ms)):(Op.equal t .nilIface .nilIface).run P w= .ok true w:=by
 have:∀n,(Op.equalIn (n+1) t .nilIface .nilIface).run P w= .ok true w:=fun n=>by
  simp only[Op.equalIn,Sem.run_bind,run_underlying h,Result.andThen_ok];rfl
 exact this 9999
theorem Ql3{t t1:TypeId}{u:Value}{ms:Array (String×TypeId)}(h:P.underlying t=some (.interface ms)):(Op.equal t (.iface t1 u) .nilIface).run P w= .ok false w:=by
 have:∀n,(Op.equalIn (n+1) t (.iface t1 u) .nilIface).run P w= .ok false w:=fun n=>by
  simp only[Op.equalIn,Sem.run_bind,run_underlying h,Result.andThen_ok];rfl
 exact this 9999
theorem Ql4{t el:TypeId}{A:Option Addr}{n cap:Nat}(h:P.underlying t=some (.slice el)):(Op.equal t (.slice A n cap) (.slice none 0 0)).run P w= .ok A.isNone w:=by
 have:∀k,(Op.equalIn (k+1) t (.slice A n cap) (.slice none 0 0)).run P w= .ok A.isNone w:=fun k=>by
  simp only[Op.equalIn,Sem.run_bind,run_underlying h,Result.andThen_ok];cases A <;> rfl
 exact this 9999
theorem Qw3{op:BinOp}{t:TypeId}{x y:Operand}{A:Option Addr}{n cap:Nat}:(eqGuard op t x y (.slice A n cap) (.slice none 0 0)).run P w= .ok () w:=by
 unfold eqGuard;cases op <;> rfl
theorem Wex{t el:TypeId}{A:Option Addr}{n cap:Nat}(h:P.underlying t=some (.slice el)):(binOp .eql t (.slice A n cap) (.slice none 0 0)).run P w= .ok (.bool A.isNone) w:=by
 show(do pure (Value.bool (<- Op.equal t (.slice A n cap) (.slice none 0 0))):Sem Value).run P w=_;simp only[Sem.run_bind,Ql4 h,Result.andThen_ok,Sem.run_pure]
theorem Qgx{t:TypeId}{a b:Bool}(h:P.underlying t=some .bool):(Op.equal t (.bool a) (.bool b)).run P w= .ok (a == b) w:=by
 have:∀n,(Op.equalIn (n+1) t (.bool a) (.bool b)).run P w= .ok (a == b) w:=fun n=>by
  simp only[Op.equalIn,Sem.run_bind,run_underlying h,Result.andThen_ok];rfl
 exact this 9999
theorem Qyf(hT:∀t,Zf P t (T t))(hR:Rel G ρ w H){op:BinOp}{t t':TypeId}{x y:Operand}(ho:o.op= .binOp op t x y t')(hx:Rp ρ w (e x) (v x))(hy:Rp ρ w (e y) (v y))(h:Qr9 ((T t).eq2 && (T t).k.known) op (e x) (e y)=some d) :
  Wt P G v o ρ w H d []:=by
 have hrb:∀b:Bool,Rp ρ w (.bool b) (.bool b):=fun b=>by rw[Rp]
 unfold Qr9 at h;split at h
 ·rename_i hq hex hey;cases h;simp only[Bool.and_eq_true]at hq;obtain⟨h1,h2⟩:=(hT t).eqp hq.2 hq.1;rw[hex]at hx;rw[hey]at hy;simp only[Rp,RpL]at hx hy;obtain⟨us,hx0,_,_,rfl,⟨rfl, -⟩,_,_,rfl,⟨rfl, -⟩,rfl⟩:=hx;obtain⟨vs,hy0,_,_,rfl,⟨rfl, -⟩,_,_,rfl,⟨rfl, -⟩,rfl⟩:=hy;refine Wt.same hR ?_ (hrb _);have h1':=h1 w;have h2':=h2 w;simp only[List.toArray]at hx0 hy0;simp[execOp,ho,hx0,hy0,h2',h1']
 ·cases h
theorem Wcx(hT:∀t,Zf P t (T t))(hR:Rel G ρ w H){op:BinOp}{t t':TypeId}{x y:Operand}(ho:o.op= .binOp op t x y t')(hx:Rp ρ w (e x) (v x))(hy:Rp ρ w (e y) (v y))(h:Xy (Xc y) (T t).k op (e x) (e y)=some d) :
  Wt P G v o ρ w H d []:=by
 have hrb:∀b:Bool,Rp ρ w (.bool b) (.bool b):=fun b=>by rw[Rp]
 unfold Xy at h;split at h
 ·rename_i t1 d1 hk hex hey;cases h;rw[hex,Rp]at hx;rw[hey,Rp]at hy;obtain⟨u,hv, -⟩:=hx;obtain⟨i,dd, -, -, -, -, -, -, -,h1,h2⟩:=(hT t).info (by rw[hk];rfl);rw[hk]at h2;obtain⟨ms,rfl⟩:=h2;refine Wt.same hR (u:= .bool true) ?_ (hrb _);simp[execOp,ho,hv,hy,eqGuard_at_iface,binOp,Ql3 h1]
 ·rename_i hk hex hey;split at h
  ·rename_i hc;cases h;rw[hex,Rp]at hx;rw[hey,Rp]at hy;obtain⟨i,dd, -, -, -, -, -, -, -,h1,h2⟩:=(hT t).info (by rw[hk];rfl);rw[hk]at h2;obtain⟨ms,rfl⟩:=h2;refine Wt.same hR (u:= .bool false) ?_ (hrb _);cases y <;> first | (cases hc;done) | skip
   simp[execOp,ho,hx,hy,eqGuard_nil_constR,binOp,Qnw h1]
  ·cases h
 ·rename_i a b hk hex hey;cases h;rw[hex,Rp]at hx;rw[hey,Rp]at hy;obtain⟨i,dd, -, -, -, -, -, -, -,h1,h2⟩:=(hT t).info (by rw[hk];rfl);rw[hk]at h2;simp only[KOK]at h2;subst h2;refine Wt.same hR (u:= .bool (decide (a=b))) ?_ (hrb _);simp[execOp,ho,hx,hy,eqGuard_at_bool,binOp,Qgx h1];rfl
 ·rename_i a b hk hex hey;cases h;rw[hex,Rp]at hx;rw[hey,Rp]at hy;obtain⟨i,dd, -, -, -, -, -, -, -,h1,h2⟩:=(hT t).info (by rw[hk];rfl);rw[hk]at h2;simp only[KOK]at h2;subst h2;refine Wt.same hR (u:= .bool (!decide (a=b))) ?_ (hrb _);simp[execOp,ho,hx,hy,eqGuard_at_bool,binOp,Qgx h1];rfl
 ·split at h
  ·rename_i d' hd;cases h;exact snd_bin hR ho hx hy hd
  ·exact Wcy hR ho hx hy h
theorem Qyg(hcv:∀c,v (.const c)=c)(hT:∀t,Zf P t (T t))(hR:Rel G ρ w H){op:BinOp}{t t':TypeId}{x y:Operand}(ho:o.op= .binOp op t x y t'){els:List D}{c:Cp}(hx:Rp ρ w (.slice els c) (v x))(hn:Qy op (T t).k (Wp y)=true) :
  ∃b:Bool,(els≠ [] ->b=false)/\Wt P G v o ρ w H (.bool b) []:=by
 unfold Qy at hn;split at hn
 ·rename_i el hk;have hy:y= .const (.slice none 0 0):=by
   unfold Wp at hn;split at hn
   ·rfl
   ·cases hn
  subst hy;rw[Rp]at hx;obtain⟨A,cap,sz,hv, -, -, -, -, -,h7⟩:=hx;obtain⟨i,dd, -, -, -, -, -, -, -,h1,h2⟩:=(hT t).info (by rw[hk];rfl);rw[hk]at h2;simp only[KOK]at h2;subst h2;refine⟨A.isNone,fun hne=>?_,?_⟩
  ·obtain⟨b,o',rfl, -⟩:=h7 hne;rfl
  ·refine Wt.same hR (u:= .bool A.isNone) ?_ (by rw[Rp]);simp[execOp,ho,hv,hcv,Qw3,Wex h1]
 ·cases hn
theorem Wel(hcv:∀c,v (.const c)=c)(hT:∀t,Zf P t (T t))(hev:Xg T e h nx o=some .bit)(hR:Rel G ρ w H)(hop:∀x,x∈o.op.operands.toList ->Rp ρ w (e x) (v x)):∃b:Bool,Wt P G v o ρ w H (.bool b) []:=by
 unfold Xg at hev;cases ho:o.op <;> rw[ho]at hev hop <;> try dsimp only at hev
 case binOp op t x y t' =>
  split at hev
  ·rename_i hn;split at hev
   ·rename_i c0 hx0;have hx:=hop x (by simp[Op.operands]);rw[hx0]at hx;obtain⟨b, -,hs⟩:=Qyg hcv hT hR ho hx hn;exact⟨b,hs⟩
   ·cases hev
   ·cases hev
  ·exfalso
   repeat' (first | (cases hev;done) | (simp only[Option.bind_eq_some_iff]at hev;obtain⟨_,_,hev⟩:=hev) | split at hev)
 case makeMap t r=>cases r <;> dsimp only at hev <;> (repeat' (first | (cases hev;done) | split at hev))
 all_goals (repeat' (first | (cases hev;done) | (simp only[Option.bind_eq_some_iff]at hev;obtain⟨_,_,hev⟩:=hev) | split at hev))
set_option maxHeartbeats 1000000 in
theorem Wej(hcv:∀c,v (.const c)=c)(hT:∀t,Zf P t (T t))(hev:Xg T e h nx o=some (.val d rd up))(hR:Rel G ρ w H)(hH:∀r,r∈rd ->H r=h r)(hop:∀x,x∈o.op.operands.toList ->Rp ρ w (e x) (v x)):Wt P G v o ρ w H d up:=by
 unfold Xg at hev;cases ho:o.op <;> rw[ho]at hev hop <;> try dsimp only at hev
 case move x =>
  cases hev;exact Qt1 hR (.inl ho) (hop x (by simp[Op.operands]))
 case assign x =>
  cases hev;exact Qt1 hR (.inr ho) (hop x (by simp[Op.operands]))
 case pick c a b =>
  split at hev
  ·rename_i cb hc;cases hev;exact Wcu hR ho hc (hop c (by simp[Op.operands])) (hop a (by simp[Op.operands])) (hop b (by simp[Op.operands]))
  ·cases hev
 case alloc t =>
  split at hev
  ·rename_i hc;simp only[Bool.and_eq_true]at hc;cases hev;exact Qyk hT hR ho ((hH nx (by simp)).trans (Qc0 hc.1.1)) hc.1.2 hc.2
  ·cases hev
 case box t x =>
  split at hev
  ·rename_i hc;simp only[Bool.and_eq_true]at hc;cases hev;exact snd_box hR ho (hop x (by simp[Op.operands])) ((hH nx (by simp)).trans (Qc0 hc.1)) hc.2
  ·cases hev
 case build t ps =>
  split at hev
  ·rename_i fs hk;cases hf:Xd (fs.map fun f=>(f.1,(T f.2).size)) (T t).zero.cells (ps.toList.map fun p=>(p.1,e p.2))with
   | none=>rw[hf]at hev;cases hev
   | some cs =>
    rw[hf]at hev;simp only[Option.bind_some]at hev;split at hev
    ·rename_i hc;simp only[Bool.and_eq_true]at hc;cases hev;exact Qyj hT hR ho (fun p hp=>hop p.2 (by simp only[Op.operands];rw[List.toList_toArray];exact List.mem_map.2 ⟨p,hp,rfl⟩)) hk hf (fun f hf=>List.all_eq_true.1 hc.1 f hf) hc.2
    ·cases hev
  ·cases hev
 case buildSlice t n ps =>
  split at hev
  ·rename_i el hk;split at hev
   ·rename_i hc;simp only[Bool.and_eq_true,List.all_eq_true,decide_eq_true_eq]at hc;obtain⟨⟨⟨⟨h1,h2⟩,h3⟩,h4⟩,h5⟩:=hc;cases hev;exact Qnn hT hR ho (fun p hp=>hop p.2 (by simp only[Op.operands];rw[List.toList_toArray];exact List.mem_map.2 ⟨p,hp,rfl⟩)) hk h1 h2 (fun p hp=>⟨List.all_eq_true.2 (h3 p hp).1.1,(h3 p hp).1.2,(h3 p hp).2⟩) h4 h5
   ·cases hev
  ·cases hev
 case load t x =>
  have hx:=hop x (by simp[Op.operands]);split at hev
  ·rename_i dd hex;split at hev
   ·rename_i cs;split at hev
    ·rename_i hc;simp only[Bool.and_eq_true,decide_eq_true_eq]at hc;cases hev;have hk:(T t).k.known=true:=by cases hh:(T t).k <;> rw[hh]at hc <;> first | rfl | cases hc.1
     exact Qje hT hR ho hx hex hk (.inl ⟨hc.1,cs,rfl,hc.2⟩)
    ·cases hev
   ·split at hev
    ·rename_i hc;simp only[Bool.and_eq_true,Bool.not_eq_true']at hc;cases hev;exact Qje hT hR ho hx hex hc.1.1 (.inr ⟨hc.1.2,hc.2⟩)
    ·cases hev
  ·rename_i i off hex;split at hev
   ·rename_i ty ds hi;split at hev
    ·rename_i hk;cases hp:Ws (T t) ds off with
     | none=>rw[hp]at hev;cases hev
     | some d1 =>
      rw[hp]at hev;simp only[Option.bind_some]at hev;cases hev;exact Qph hT hR ho hx hex ((hH i (by simp)).trans hi) hk hp
    ·cases hev
   ·cases hev
  ·rename_i i sz k off hex;split at hev
   ·rename_i sz' els hi;split at hev
    ·rename_i dd hd;split at hev
     ·rename_i hc;simp only[Bool.and_eq_true,decide_eq_true_eq]at hc;obtain⟨hk,rfl⟩:=hc;cases hp:Ws (T t) dd.cells off with
      | none=>rw[hp]at hev;cases hev
      | some d1 =>
       rw[hp]at hev;simp only[Option.bind_some]at hev;cases hev;exact Qno hT hR ho hx hex ((hH i (by simp)).trans hi) hd hk hp
     ·cases hev
    ·cases hev
   ·cases hev
  ·cases hev
 case store t x y =>
  split at hev
  ·rename_i i off hex;split at hev
   ·rename_i ty ds hi;split at hev
    ·rename_i hc;simp only[Bool.and_eq_true,decide_eq_true_eq]at hc;cases hev;exact Qyd hT hR ho (hop x (by simp[Op.operands])) (hop y (by simp[Op.operands])) hex ((hH i (by simp)).trans hi) hc.1.1.1 hc.1.1.2 hc.1.2 hc.2
    ·cases hev
   ·cases hev
  ·rename_i i sz k off hex;split at hev
   ·rename_i sz' els hi;split at hev
    ·rename_i dd hd;split at hev
     ·rename_i hc;simp only[Bool.and_eq_true,decide_eq_true_eq]at hc;obtain⟨⟨⟨⟨hk,rfl⟩,h1⟩,h2⟩,h3⟩:=hc;cases hev;exact Qlx hT hR ho (hop x (by simp[Op.operands])) (hop y (by simp[Op.operands])) hex ((hH i (by simp)).trans hi) hd hk h1 h2 h3
     ·cases hev
    ·cases hev
   ·cases hev
  ·cases hev
 case nilCheck x =>
  have hx:=hop x (by simp[Op.operands]);split at hev
  ·rename_i dd hex;cases hev;rw[hex]at hx;obtain⟨b,off,hv, -⟩:=Qbl.1 hx;exact Wt.same hR (u:=v x) (by simp[execOp,ho,hv]) hx
  ·rename_i i off hex;cases hev;rw[hex]at hx;have hx':=hx;rw[Rp]at hx';obtain⟨b,f, -,hv⟩:=hx';exact Wt.same hR (u:=v x) (by simp[execOp,ho,hv]) hx
  ·rename_i i sz k off hex;cases hev;rw[hex]at hx;have hx':=hx;rw[Rp]at hx';obtain⟨b,f, -,hv⟩:=hx';exact Wt.same hR (u:=v x) (by simp[execOp,ho,hv]) hx
  ·rename_i f a b hex;cases hev;rw[hex]at hx;have hx':=hx;rw[Rp]at hx';obtain⟨us,vs,hv, -⟩:=hx';exact Wt.same hR (u:=v x) (by simp[execOp,ho,hv]) hx
  ·cases hev
 case binOp op t x y t' =>
  split at hev
  ·rename_i hn;split at hev
   ·cases hev
   ·rename_i d0 r0 c0 hx0;cases hev;have hx:=hop x (by simp[Op.operands]);rw[hx0]at hx;obtain⟨b,hb,hs⟩:=Qyg hcv hT hR ho hx hn;rw[hb (by simp)]at hs;exact hs
   ·cases hev
  split at hev
  ·rename_i dp hp;cases hev;exact Qyf hT hR ho (hop x (by simp[Op.operands])) (hop y (by simp[Op.operands])) hp
  ·cases hb:Xy (Xc y) (T t).k op (e x) (e y)with
   | none=>rw[hb]at hev;cases hev
   | some d1 =>
    rw[hb]at hev;simp only[Option.bind_some]at hev;cases hev;exact Wcx hT hR ho (hop x (by simp[Op.operands])) (hop y (by simp[Op.operands])) hb
 case unOp op t x =>
  split at hev
  ·rename_i b hex;cases hev;exact snd_not hR ho (hop x (by simp[Op.operands])) hex
  ·cases hev
 case convert s t x =>
  split at hev
  ·rename_i k k' n hs ht hex;cases hev;exact Qrv hT hR ho (hop x (by simp[Op.operands])) hex hs ht
  ·cases hev
 case makeInterface t x =>
  split at hev
  ·cases hev
  ·cases hev
  ·rename_i h1 h2;cases hev;refine Qyh hT hR ho (hop x (by simp[Op.operands])) ?_ h2;cases hh:(T t).k <;> first | rfl | exact absurd hh h1
 case makeFunc fn a b =>
  cases hev;exact Wcw hR ho (fun x hx=>hop x (by simp only[Op.operands];simp at hx⊢;exact .inl hx)) (fun x hx=>hop x (by simp only[Op.operands];simp at hx⊢;exact .inr hx))
 case fieldAddr s x f =>
  have hx:=hop x (by simp[Op.operands]);split at hev
  ·rename_i fs hs;split at hev
   ·rename_i k ft hn;split at hev
    ·rename_i hc;simp only[Bool.and_eq_true,decide_eq_true_eq]at hc;split at hev
     ·rename_i i off hex;cases hev;exact Qns hT hR ho hx hs hn hc.1 hc.2 hex
     ·rename_i i sz j off hex;cases hev;exact Qly hT hR ho hx hs hn hc.1 hc.2 hex
     ·rename_i cs hex;cases hp:Ws (T ft) cs k with
      | none=>rw[hp]at hev;cases hev
      | some d1 =>
       rw[hp]at hev;simp only[Option.bind_some]at hev;cases hev;exact Qnr hT hR ho hx hs hn hc.1 hc.2 hex hp
     ·cases hev
    ·cases hev
   ·cases hev
  ·cases hev
 case field s x f =>
  have hx:=hop x (by simp[Op.operands]);split at hev
  ·rename_i fs hs;split at hev
   ·rename_i k ft hn;split at hev
    ·rename_i hc;split at hev
     ·rename_i cs hex;cases hp:Ws (T ft) cs k with
      | none=>rw[hp]at hev;cases hev
      | some d1 =>
       rw[hp]at hev;simp only[Option.bind_some]at hev;cases hev;exact Qyi hT hR ho hx hs hn hc hex hp
     ·cases hev
    ·cases hev
   ·cases hev
  ·cases hev
 case indexAddr t x ix =>
  have hx:=hop x (by simp[Op.operands]);have hix:=hop ix (by simp[Op.operands]);split at hev
  ·rename_i el hk;split at hev
   ·rename_i els cp k i hex hei;split at hev
    ·rename_i hc;simp only[Bool.and_eq_true,decide_eq_true_eq]at hc;split at hev
     ·rename_i d1 hd;split at hev
      ·rename_i hs;cases hev;exact Qkb hT hR ho hx hix hk hc.2 hex hei hc.1 hd hs
      ·cases hev
     ·cases hev
    ·cases hev
   ·rename_i j n k i hex hei;split at hev
    ·rename_i hc;simp only[Bool.and_eq_true,decide_eq_true_eq]at hc;cases hev;exact Qnp hT hR ho hx hix hk hc.2 hex hei hc.1.1 hc.1.2
    ·cases hev
   ·cases hev
  ·rename_i n el hk;split at hev
   ·rename_i cs k i hex hei;split at hev
    ·rename_i hc;simp only[Bool.and_eq_true,decide_eq_true_eq]at hc;cases hp:Ws (T el) cs (i.toNat * (T el).size)with
     | none=>rw[hp]at hev;cases hev
     | some d1 =>
      rw[hp]at hev;simp only[Option.bind_some]at hev;cases hev;exact Qnq hT hR ho hx hix hk hc.2 hex hei hc.1.1 hc.1.2 hp
    ·cases hev
   ·cases hev
  ·cases hev
 case slice t x lo hi mx =>
  split at hev
  ·rename_i el els cx l h' m hk hex hl hh hm;split at hev
   ·rename_i hc;simp only[Bool.and_eq_true,decide_eq_true_eq,List.all_eq_true]at hc;obtain⟨⟨⟨⟨h1,h2⟩,h3⟩,h4⟩,h5⟩:=hc;cases hev;refine Qye hT hR ho (hop x (by simp[Op.operands])) (fun y hy=>hop y (by subst hy;simp[Op.operands])) (fun y hy=>hop y (by subst hy;simp[Op.operands])) (fun y hy=>hop y (by subst hy;simp[Op.operands])) hk h1 hex hl hh hm h2 h3 (fun n hn=>?_) h5;subst hn;have:h'=some n:=by simpa [Zh]using h4
    subst this;exact⟨rfl,rfl⟩
   ·cases hev
  ·rename_i el i n q hk hex hl hh hm;split at hev
   ·rename_i sz els hi';split at hev
    ·rename_i hc;simp only[Bool.and_eq_true,decide_eq_true_eq]at hc;obtain⟨⟨h1,rfl⟩,h2⟩:=hc;cases hev;exact Qnm hT hR ho (hop x (by simp[Op.operands])) (fun y hy=>hop y (by subst hy;simp[Op.operands])) (fun y hy=>hop y (by subst hy;simp[Op.operands])) (fun y hy=>hop y (by subst hy;simp[Op.operands])) hk h1 hex ((hH i (by simp)).trans hi') hl hh hm h2
    ·cases hev
   ·cases hev
  ·cases hev
 case lookup t m ix ok =>
  split at hev
  ·rename_i kt el i k a hk hem hei;split at hev
   ·rename_i kk es hkt hi;split at hev
    ·rename_i hc;simp only[Bool.and_eq_true]at hc;cases hev;exact Qvu hT hR ho (hop m (by simp[Op.operands])) (hop ix (by simp[Op.operands])) hk hkt hc.2 hem hei ((hH i (by simp)).trans hi) hc.1
    ·cases hev
   ·cases hev
  ·rename_i kt el ks vs k a hk hem hei;split at hev
   ·rename_i kk hkt;split at hev
    ·rename_i hc;simp only[Bool.and_eq_true,decide_eq_true_eq]at hc;cases hev;exact Qrs hT hR ho (hop m (by simp[Op.operands])) (hop ix (by simp[Op.operands])) hk hkt hc.2 hem hei hc.1.1 hc.1.2
    ·cases hev
   ·cases hev
  ·cases hev
 case makeMap t r =>
  cases r with
  | some x=>cases hev
  | none =>
   dsimp only at hev;split at hev
   ·rename_i hc;cases hev;exact Qrr hR ho ((hH nx (by simp)).trans (Qc0 hc))
   ·cases hev
 case mapUpdate t m ix x =>
  split at hev
  ·rename_i kt el i k a hk hem hei;split at hev
   ·rename_i kk es hkt hi;split at hev
    ·rename_i hc;split at hev
     ·rename_i dd hf;cases hev;exact Qvt hT hR ho (hop m (by simp[Op.operands])) (hop ix (by simp[Op.operands])) (hop x (by simp[Op.operands])) hk hkt hem hei ((hH i (by simp)).trans hi) hc hf
     ·rename_i hf;split at hev
      ·rename_i hl;cases hev;exact Qmh hT hR (.inl ho) (hop m (by simp[Op.operands])) (hop ix (by simp[Op.operands])) (hop x (by simp[Op.operands])) hk hkt hem hei ((hH i (by simp)).trans hi) hc hf hl
      ·cases hev
    ·cases hev
   ·cases hev
  ·cases hev
 case makeSlice t x y =>
  split at hev
  ·rename_i el k1 a k2 b hk hex hey;split at hev
   ·rename_i hc;simp only[Bool.and_eq_true,decide_eq_true_eq]at hc;obtain⟨⟨⟨⟨⟨⟨⟨h1,hab⟩,h2⟩,h3⟩,h4⟩,h5⟩,h6⟩,h7⟩:=hc;cases hev;exact Wcv hT hR ho (hop x (by simp[Op.operands])) (hop y (by simp[Op.operands])) hex hey hab h2 h3 hk h4 h5 h6 h7 ((hH nx (by simp)).trans (Qc0 h1))
   ·cases hev
  ·cases hev
 case insert t m ix x =>
  split at hev
  ·rename_i kt el i k a hk hem hei;split at hev
   ·rename_i kk es hkt hi;split at hev
    ·rename_i hc;simp only[Bool.and_eq_true,Option.isNone_iff_eq_none,decide_eq_true_eq]at hc;cases hev;exact Qmh hT hR (.inr ho) (hop m (by simp[Op.operands])) (hop ix (by simp[Op.operands])) (hop x (by simp[Op.operands])) hk hkt hem hei ((hH i (by simp)).trans hi) hc.1.1 hc.1.2 hc.2
    ·cases hev
   ·cases hev
  ·cases hev
 case extract x i =>
  split at hev
  ·rename_i ds hex;cases hd:ds[i]? with
   | none=>rw[hd]at hev;cases hev
   | some d1 =>
    rw[hd]at hev;simp only[Option.bind_some]at hev;cases hev;exact Qru hR ho (hop x (by simp[Op.operands])) hex hd
  ·cases hev
 case typeAssert x xt at_ ok =>
  split at hev
  ·cases hev
  ·cases hev
  ·rename_i t1 d1 hex h1 h2;split at hev
   ·rename_i hok;subst hok;cases hev;refine Qvv hT hR ho (hop x (by simp[Op.operands])) hex ?_ h2;cases hh:(T at_).k <;> first | rfl | exact absurd hh h1
   ·cases hev
  ·cases hev
 case panic x=>split at hev <;> cases hev
 case defer c =>
  split at hev
  ·split at hev
   ·split at hev <;> cases hev
   ·cases hev
  ·cases hev
 case call c =>
  split at hev
  ·rename_i hcal;split at hev
   ·rename_i x t ha ht;split at hev
    ·rename_i el els cp hk hex;cases hev;exact snd_len hT hR ho hcal (Qcj ha) (Qcj ht) (hop x (by simp only[Op.operands,Call.operands];rw[Qcj ha];simp)) hex hk
    ·rename_i el i n hk hex;cases hev;exact Qrt hT hR ho hcal (Qcj ha) (Qcj ht) (hop x (by simp only[Op.operands,Call.operands];rw[Qcj ha];simp)) hex hk
    ·cases hev
   ·cases hev
  ·rename_i hcal;split at hev
   ·rename_i x t ha ht;split at hev
    ·rename_i el els hk hex;cases hev;exact snd_cap hT hR ho hcal (Qcj ha) (Qcj ht) (hop x (by simp only[Op.operands,Call.operands];rw[Qcj ha];simp)) hex hk
    ·cases hev
   ·cases hev
  ·rename_i hcal;split at hev
   ·rename_i x y t t2 ha ht;split at hev
    ·rename_i el el2 els cx els2 cy hk hk2 hex hey;split at hev
     ·rename_i hc;simp only[Bool.and_eq_true,decide_eq_true_eq,List.all_eq_true]at hc;obtain⟨⟨⟨⟨⟨h1,h2⟩,h3⟩,h4⟩,h5⟩,h6⟩:=hc;have hx:=hop x (by simp only[Op.operands,Call.operands];rw[Qaa ha];simp);have hy:=hop y (by simp only[Op.operands,Call.operands];rw[Qaa ha];simp);split at hev
      ·cases hev;exact Qmi hT hR ho hcal (Qaa ha) (Qaa ht) hx hy hex hey hk hk2 h2 h3 h4 h5 h6 ((hH nx (by simp)).trans (Qc0 h1)) (.inl rfl)
      ·rename_i i;split at hev
       ·rename_i htk;cases hev;exact Qmi hT hR ho hcal (Qaa ha) (Qaa ht) hx hy hex hey hk hk2 h2 h3 h4 h5 h6 ((hH nx (by simp)).trans (Qc0 h1)) (.inr ⟨i,rfl,(hH i (by simp)).trans (Wea htk)⟩)
       ·cases hev
      ·cases hev
     ·cases hev
    ·rename_i el el2 i n els2 cy hk hk2 hex hey;split at hev
     ·rename_i sz els hi;split at hev
      ·rename_i hc;simp only[Bool.and_eq_true,decide_eq_true_eq,List.all_eq_true]at hc;obtain⟨⟨⟨⟨⟨⟨⟨⟨h1,h2⟩,h3⟩,h4⟩,h5⟩,rfl⟩,h6⟩,h7⟩,h8⟩:=hc;have hx:=hop x (by simp only[Op.operands,Call.operands];rw[Qaa ha];simp);have hy:=hop y (by simp only[Op.operands,Call.operands];rw[Qaa ha];simp);cases hev;exact Qlz hT hR ho hcal (Qaa ha) (Qaa ht) hx hy hex ((hH i (by simp)).trans hi) hey hk hk2 h2 h3 h4 h5 h6 h7 h8 ((hH nx (by simp)).trans (Qc0 h1))
      ·cases hev
     ·cases hev
    ·rename_i el ki ka a hk hk2 hex hey;split at hev
     ·rename_i hc;simp only[Bool.and_eq_true,decide_eq_true_eq]at hc;obtain⟨⟨⟨⟨⟨⟨h1,h2⟩,h3⟩,h4⟩,h5⟩,h6⟩,h7⟩:=hc;have hx:=hop x (by simp only[Op.operands,Call.operands];rw[Qaa ha];simp);have hy:=hop y (by simp only[Op.operands,Call.operands];rw[Qaa ha];simp);cases hev;exact Qjr hT hR ho hcal (Qaa ha) (Qaa ht) hx hy hex hey hk hk2 h2 h3 h4 h5 h6 h7 ((hH nx (by simp)).trans (Qc0 h1))
     ·cases hev
    ·cases hev
   ·cases hev
  ·rename_i hcal;split at hev
   ·rename_i x y ha;split at hev
    ·rename_i k a k' b hex hey;split at hev
     ·rename_i hkk;subst hkk;cases hev;have hx:=hop x (by simp only[Op.operands,Call.operands];rw[Qaa ha];simp);have hy:=hop y (by simp only[Op.operands,Call.operands];rw[Qaa ha];simp);rw[hex,Rp]at hx;rw[hey,Rp]at hy;refine Wt.same hR (u:= .int k (max a b)) ?_ (by rw[Rp];refine⟨rfl,?_⟩;omega);simp[execOp,ho,hcal,Qaa ha,resolve,invoke,builtin,hx.1,hy.1,Lib.run_max_ints]
     ·cases hev
    ·cases hev
   ·cases hev
  ·rename_i hcal;split at hev
   ·rename_i x y ha;split at hev
    ·rename_i k a k' b hex hey;split at hev
     ·rename_i hkk;subst hkk;cases hev;have hx:=hop x (by simp only[Op.operands,Call.operands];rw[Qaa ha];simp);have hy:=hop y (by simp only[Op.operands,Call.operands];rw[Qaa ha];simp);rw[hex,Rp]at hx;rw[hey,Rp]at hy;refine Wt.same hR (u:= .int k (min a b)) ?_ (by rw[Rp];refine⟨rfl,?_⟩;omega);simp[execOp,ho,hcal,Qaa ha,resolve,invoke,builtin,hx.1,hy.1,Lib.run_min_ints]
     ·cases hev
    ·cases hev
   ·cases hev
  ·split at hev <;> cases hev
  ·cases hev
 all_goals cases hev
end
end Go.Proofs.YtgloldepdhgfaaaGreatDoor
namespace Go.Proofs.YtgloldepdhgfaaaGreatDoor
set_option linter.unusedSimpArgs false
set_option linter.unusedVariables false
open Go.RowKit
inductive Out where
 | ret (d:D)
 | pan (d:D)
def Qmb(ρ:Rho)(w:World):Out ->Ending ->Prop
 | .ret d,e=>∃u,e= .returned u/\Rp ρ w d u
 | .pan d,e=>∃u,e= .panicked (Qej u)/\Rp ρ w d u
def Qde(P:Program)(G:Nat ->Option D)(f:FuncId)(args:List D)(h:Nat ->HO)(out:Out)(rd:List Nat)(up:List (Nat×HO)):Prop :=
 ∀(ρ:Rho) (w:World) (H:Nat ->HO) (vs:List Value),Rel G ρ w H ->(∀r,r∈rd ->H r=h r) ->RpL ρ w args vs ->(callFunc f vs.toArray).run P w= .ok (.enter f vs.toArray) w /\
  Calls P f vs.toArray w fun e w'=>∃ρ',Rel G ρ' w' (Qd3 H up)/\Ex ρ w H ρ' w' (Qd3 H up)/\Qmb ρ' w' out e
section
variable {P : Program} {G : Nat -> Option D} {ρ : Rho} {w : World} {H h : Nat -> HO} {T : TypeId -> Ty} {v : Operand -> Value} {e : Operand -> D} {o : Oper} {nx : Nat}
theorem Qk8{f:FuncId}{args:List D}(hev:Xg T e h nx o=some (.call f args))(hop:∀x,x∈o.op.operands.toList ->Rp ρ w (e x) (v x)) :
  ∃vs:List Value,RpL ρ w args vs/\∀w,(execOp v o).run P w=(callFunc f vs.toArray).run P w:=by
 unfold Xg at hev;cases ho:o.op <;> rw[ho]at hev hop <;> try dsimp only at hev
 case call c =>
  split at hev
  ·repeat' (first | (cases hev;done) | split at hev)
  ·repeat' (first | (cases hev;done) | split at hev)
  ·repeat' (first | (cases hev;done) | split at hev)
  ·repeat' (first | (cases hev;done) | split at hev)
  ·repeat' (first | (cases hev;done) | split at hev)
  ·rename_i fo hcal;split at hev
   ·rename_i g a b hf;cases hev;have hfo:=hop fo (by simp[Op.operands,Call.operands,hcal]);rw[hf,Rp]at hfo;obtain⟨us,vs,hv,h1,h2⟩:=hfo;have hargs:RpL ρ w (c.args.toList.map e) (c.args.toList.map v):=Qox fun x hx=>hop x (by simp[Op.operands,Call.operands];right;simpa using hx)
    refine⟨us++c.args.toList.map v++vs,(h1.append hargs).append h2,fun w=>?_⟩;simp only[execOp,ho,resolve,hcal,hv,Deferred.ofValue,Sem.run_bind,Sem.run_pure,Result.andThen_ok,invoke]
    congr 2
    apply Array.ext';simp
   ·cases hev
  ·cases hev
 case makeMap t r=>cases r <;> dsimp only at hev <;> (repeat' (first | (cases hev;done) | split at hev))
 all_goals (repeat' (first | (cases hev;done) | (simp only[Option.bind_eq_some_iff]at hev;obtain⟨_,_,hev⟩:=hev) | split at hev))
theorem Wek{d:D}(hev:Xg T e h nx o=some (.pan d))(hop:∀x,x∈o.op.operands.toList ->Rp ρ w (e x) (v x)):∃u,Rp ρ w d u/\(execOp v o).run P w= .halt (.panic u) w:=by
 unfold Xg at hev;cases ho:o.op <;> rw[ho]at hev hop <;> try dsimp only at hev
 case panic x =>
  split at hev
  ·rename_i t d' hx;cases hev;have:=hop x (by simp[Op.operands]);rw[hx]at this;refine⟨v x,this,?_⟩;rw[Rp]at this;obtain⟨u,hv, -⟩:=this;simp[execOp,ho,hv,Instr.panic,goPanic]
  ·cases hev
 case makeMap t r=>cases r <;> dsimp only at hev <;> (repeat' (first | (cases hev;done) | split at hev))
 all_goals (repeat' (first | (cases hev;done) | (simp only[Option.bind_eq_some_iff]at hev;obtain⟨_,_,hev⟩:=hev) | split at hev))
theorem Quw{f:FuncId}{cap:List D}(hev:Xg T e h nx o=some (.dfr f cap))(hop:∀x,x∈o.op.operands.toList ->Rp ρ w (e x) (v x)) :
  ∃vs:List Value,RpL ρ w cap vs/\(execOp v o).run P w= .ok (.defer {target:= .fn (.func f) vs.toArray,args:= #[]}) w:=by
 unfold Xg at hev;cases ho:o.op <;> rw[ho]at hev hop <;> try dsimp only at hev
 case defer c =>
  split at hev
  ·rename_i fo hcal;split at hev
   ·rename_i g b hf;split at hev
    ·rename_i hemp;cases hev;have hfo:=hop fo (by simp[Op.operands,Call.operands,hcal]);rw[hf,Rp]at hfo;obtain⟨us,vs,hv,h1,h2⟩:=hfo;rw[Wu]at h1;subst h1;refine⟨vs,h2,?_⟩;have hnil:c.args= #[]:=by
      apply Array.ext';simpa using hemp
     simp[execOp,ho,resolve,hcal,hv,Deferred.ofValue,hnil]
    ·cases hev
   ·cases hev
  ·cases hev
 case makeMap t r=>cases r <;> dsimp only at hev <;> (repeat' (first | (cases hev;done) | split at hev))
 all_goals (repeat' (first | (cases hev;done) | (simp only[Option.bind_eq_some_iff]at hev;obtain⟨_,_,hev⟩:=hev) | split at hev))
end
def Wn(ops:Array Oper)(tm:Nat ->D)(o:Oper):Option Bool :=
 match o.guard with
 | none=>some true
 | some (j,want)=>match Wm ops j with
  | none=>none
  | some t=>match tm t with
   | .bool b=>some (b == want)
   | .tuple []=>some false
   | _=>none
theorem Qbo{ops:Array Oper}{tm:Nat ->D}{o:Oper}{b:Bool}(h:Wn ops tm o=some b){ρ:Rho}{w:World}{a:Act}(hu:∀t,t∈Oper.looksAt ops o ->Rp ρ w (tm t) (a.tmps.getD t undef)):Region.wanted o (yielded ops a.tmps)=b:=by
 unfold Wn at h;unfold Region.wanted;cases hg:o.guard with
 | none=>rw[hg]at h;cases h;rfl
 | some gw =>
  obtain⟨j,want⟩:=gw;rw[hg]at h;dsimp only at h⊢;cases hd:Wm ops j with
  | none=>rw[hd]at h;cases h
  | some t =>
   rw[hd]at h;dsimp only at h;have hdd:(ops[j]?).bind (·.dst)=some t:=hd;have ht:=hu t (by unfold Oper.looksAt;rw[hg];simp[hdd]);unfold yielded;rw[hdd];simp only[Option.bind_some];split at h
   ·rename_i b' hb;cases h;rw[hb,Rp]at ht;have:a.tmps[t]?=some (.bool b'):=by
     rw[Array.getD_eq_getD_getElem?]at ht;cases hq:a.tmps[t]? with
     | none=>rw[hq]at ht;simp[undef]at ht
     | some x=>rw[hq]at ht;simpa using ht
    rw[this];cases b' <;> cases want <;> rfl
   ·rename_i hb;cases h;rw[hb,Rp]at ht;obtain⟨us,ht,hus⟩:=ht;rw[Wu]at hus;subst hus;rw[Array.getD_eq_getD_getElem?]at ht;cases hq:a.tmps[t]? with
    | none=>simp
    | some x=>rw[hq]at ht;simp at ht;subst ht;simp
   ·cases h
def Wc(tl:List D):Nat ->D:=fun t=>tl.getD t .junk
def hOf(hl:List HO):Nat ->HO:=fun i=>hl.getD i .free
def Qr(tl:List D):Option Tmp ->D ->List D
 | none,_=>tl
 | some t,d=>tl.set t d
def Wi(hl:List HO)(n:Nat)(x:HO):List HO:=if n<hl.length then hl.set n x else hl++List.replicate (n - hl.length) .free++ [x]
def Qw(hl:List HO):List (Nat×HO) ->List HO
 | []=>hl
 | (n,x)::r=>Qw (Wi hl n x) r
theorem Qom(hl:List HO)(n:Nat)(x:HO):hOf (Wi hl n x)=Qbm (hOf hl) n x:=by
 funext i
 unfold hOf Wi Qbm;split
 ·rename_i h;by_cases hi:i=n
  ·subst hi;simp[List.getD,h]
  ·simp[List.getD,hi,List.getElem?_set_ne (Ne.symm hi)]
 ·rename_i h;by_cases hi:i=n
  ·subst hi;have:i - hl.length+(hl.length - i)=i - hl.length:=by omega
   simp only[List.getD,if_true];rw[List.getElem?_append_right (by simp;omega)];have e:i - (hl++List.replicate (i - hl.length) HO.free).length=0:=by simp;omega
   rw[e];rfl
  ·simp only[hi,if_false,List.getD];by_cases h1:i<hl.length
   ·rw[List.append_assoc,List.getElem?_append_left h1]
   ·rw[List.getElem?_eq_none (Nat.le_of_not_lt h1)];by_cases h2:i<n
    ·rw[List.getElem?_append_left (by simp;omega),List.getElem?_append_right (by omega),List.getElem?_replicate];have:i - hl.length<n - hl.length:=by omega
     simp[this]
    ·rw[List.getElem?_eq_none (by simp;omega)]
theorem Qi5:∀(up:List (Nat×HO)) (hl:List HO),hOf (Qw hl up)=Qd3 (hOf hl) up
 | [],_=>rfl
 | (n,x)::r,hl=>by rw[Qw,Qd3,Qi5 r,Qom]
theorem Xh(tl:List D)(dst:Option Tmp)(d:D):(Qr tl dst d).length=tl.length:=by cases dst <;> simp[Qr]
def Qe2(P:Program)(ops:Array Oper)(Q:Exit ->Act ->World ->Prop)(o:Oper)(K:Act ->World ->Prop)(a:Act)(w:World):Prop :=
 if Region.wanted o (yielded ops a.tmps)then o.wp P a w K Q\/(o.asks P a w/\LetsOut Q)else K (a.put o.dst undef) w
theorem Qho{P:Program}{ops:Array Oper}{Q:Exit ->Act ->World ->Prop}{i:Nat}{o:Oper}(ho:ops[i]?=some o){K:Act ->World ->Prop}{a:Act}{w:World}(h:Qe2 P ops Q o K a w):wpOp P ops Q i K a w:=by
 unfold wpOp;rw[ho];exact h
section
variable {P : Program} {G : Nat -> Option D} {Q : Exit -> Act -> World -> Prop} {ops : Array Oper} {T : TypeId -> Ty} {o : Oper} {tm : Nat -> D} {h : Nat -> HO} {nx : Nat}
theorem Qjh{ρ:Rho}{w:World}{H:Nat ->HO}{a:Act}(hR:Rel G ρ w H)(hu:∀t,t∈Oper.looksAt ops o ->Rp ρ w (tm t) (a.tmps.getD t undef))(x:Operand)(hx:x∈o.op.operands.toList):Rp ρ w (opD G tm x) (a.eval x):=by
 cases x with
 | tmp t =>
  refine hu t ?_;unfold Oper.looksAt;exact List.mem_append_left _ (List.mem_filterMap.2 ⟨.tmp t,hx,rfl⟩)
 | const v=>exact Wfw ρ w v
 | global g =>
  show Rp ρ w (match G g with | some d=> .ref d | none=> .junk) _;cases hg:G g with
  | none=>rw[Rp];trivial
  | some d=>exact Qbl.2 ⟨g,0,rfl,hR.glob g d hg⟩
 | func f=>show Rp ρ w (.fn (.func f) [] []) _;rw[Rp];exact⟨[], [],rfl,Wu.2 rfl,Wu.2 rfl⟩
theorem Qsc(hT:∀t,Zf P t (T t))(hw:Wn ops tm o=some true){d:D}{rd:List Nat}{up:List (Nat×HO)}(hev:Xg T (opD G tm) h nx o=some (.val d rd up)){ρ:Rho}{w:World}{a:Act}{H:Nat ->HO}(hR:Rel G ρ w H)(hH:∀r,r∈rd ->H r=h r)
  (hu:∀t,t∈Oper.looksAt ops o ->Rp ρ w (tm t) (a.tmps.getD t undef)) {K:Act ->World ->Prop} (hK:∀u ρ' w',Rp ρ' w' d u ->Rel G ρ' w' (Qd3 H up) ->Ex ρ w H ρ' w' (Qd3 H up) ->K (a.put o.dst u) w'):Qe2 P ops Q o K a w:=by
 unfold Qe2;rw[Qbo hw hu,if_pos rfl];obtain⟨n,u,ρ',w',h1,h2,h3,h4,h5⟩:=Wej (fun _=>rfl) hT hev hR hH (fun x hx=>Qjh hR hu x hx);left;unfold Oper.wp;rw[h1];rcases h2 with rfl | ⟨rfl,rfl⟩
 ·exact hK u ρ' w' h3 h4 h5
 ·exact hK undef ρ' w' h3 h4 h5
theorem Qy6(hT:∀t,Zf P t (T t))(hw:Wn ops tm o=some true)(hev:Xg T (opD G tm) h nx o=some .bit){ρ:Rho}{w:World}{a:Act}{H:Nat ->HO}(hR:Rel G ρ w H)
  (hu:∀t,t∈Oper.looksAt ops o ->Rp ρ w (tm t) (a.tmps.getD t undef)) {K:Act ->World ->Prop} (hK:∀b u ρ' w',Rp ρ' w' (.bool b) u ->Rel G ρ' w' (Qd3 H []) ->Ex ρ w H ρ' w' (Qd3 H []) ->K (a.put o.dst u) w'):Qe2 P ops Q o K a w:=by
 unfold Qe2;rw[Qbo hw hu,if_pos rfl];obtain⟨b,n,u,ρ',w',h1,h2,h3,h4,h5⟩:=Wel (fun _=>rfl) hT hev hR (fun x hx=>Qjh hR hu x hx);left;unfold Oper.wp;rw[h1];rcases h2 with rfl | ⟨rfl,rfl⟩
 ·exact hK b u ρ' w' h3 h4 h5
 ·exact hK b undef ρ' w' h3 h4 h5
theorem Qse(hw:Wn ops tm o=some false){ρ:Rho}{w:World}{a:Act}{H:Nat ->HO}(hR:Rel G ρ w H)(hu:∀t,t∈Oper.looksAt ops o ->Rp ρ w (tm t) (a.tmps.getD t undef)){K:Act ->World ->Prop}
  (hK:∀u ρ' w',Rp ρ' w' (.tuple []) u ->Rel G ρ' w' (Qd3 H []) ->Ex ρ w H ρ' w' (Qd3 H []) ->K (a.put o.dst u) w'):Qe2 P ops Q o K a w:=by
 unfold Qe2;rw[Qbo hw hu,if_neg (by simp)];exact hK undef ρ w (by rw[Rp];exact⟨[],rfl,Wu.2 rfl⟩) hR (Ex.refl _ _ _)
theorem Wdl(hw:Wn ops tm o=some true){f:FuncId}{args:List D}{d:D}{rd:List Nat}{up:List (Nat×HO)}(hev:Xg T (opD G tm) h nx o=some (.call f args))(hc:Qde P G f args h (.ret d) rd up){ρ:Rho}{w:World}{a:Act}{H:Nat ->HO}(hR:Rel G ρ w H)
  (hH:∀r,r∈rd ->H r=h r) (hu:∀t,t∈Oper.looksAt ops o ->Rp ρ w (tm t) (a.tmps.getD t undef)) {K:Act ->World ->Prop} (hK:∀u ρ' w',Rp ρ' w' d u ->Rel G ρ' w' (Qd3 H up) ->Ex ρ w H ρ' w' (Qd3 H up) ->K (a.put o.dst u) w'):Qe2 P ops Q o K a w:=by
 unfold Qe2;rw[Qbo hw hu,if_pos rfl];obtain⟨vs,h1,h2⟩:=Qk8 (P:=P) (ρ:=ρ) (w:=w) (v:=a.eval) hev (fun x hx=>Qjh hR hu x hx);obtain⟨h3,h4⟩:=hc ρ w H vs hR hH h1;left;unfold Oper.wp;rw[h2 w,h3,Oper.upon_enter];refine h4.mono ?_;rintro e w' ⟨ρ',g1,g2,u,rfl,g3⟩;exact hK u ρ' w' g3 g1 g2
theorem Qpu(hw:Wn ops tm o=some true){f:FuncId}{args:List D}{d:D}{rd:List Nat}{up:List (Nat×HO)}(hev:Xg T (opD G tm) h nx o=some (.call f args))(hc:Qde P G f args h (.pan d) rd up){ρ:Rho}{w:World}{a:Act}{H:Nat ->HO}(hR:Rel G ρ w H)
  (hH:∀r,r∈rd ->H r=h r) (hu:∀t,t∈Oper.looksAt ops o ->Rp ρ w (tm t) (a.tmps.getD t undef)) {K:Act ->World ->Prop} (hK:∀u ρ' w',Rp ρ' w' d u ->Rel G ρ' w' (Qd3 H up) ->Ex ρ w H ρ' w' (Qd3 H up) ->Q (.panic (Qej u)) a w'):Qe2 P ops Q o K a w:=by
 unfold Qe2;rw[Qbo hw hu,if_pos rfl];obtain⟨vs,h1,h2⟩:=Qk8 (P:=P) (ρ:=ρ) (w:=w) (v:=a.eval) hev (fun x hx=>Qjh hR hu x hx);obtain⟨h3,h4⟩:=hc ρ w H vs hR hH h1;left;unfold Oper.wp;rw[h2 w,h3,Oper.upon_enter];refine h4.mono ?_;rintro e w' ⟨ρ',g1,g2,u,rfl,g3⟩;exact hK u ρ' w' g3 g1 g2
theorem Qsd(hw:Wn ops tm o=some true){d:D}(hev:Xg T (opD G tm) h nx o=some (.pan d)){ρ:Rho}{w:World}{a:Act}{H:Nat ->HO}(hR:Rel G ρ w H)
  (hu:∀t,t∈Oper.looksAt ops o ->Rp ρ w (tm t) (a.tmps.getD t undef)) {K:Act ->World ->Prop} (hK:∀u ρ' w',Rp ρ' w' d u ->Rel G ρ' w' (Qd3 H []) ->Ex ρ w H ρ' w' (Qd3 H []) ->Q (.panic (Qej u)) a w'):Qe2 P ops Q o K a w:=by
 unfold Qe2;rw[Qbo hw hu,if_pos rfl];obtain⟨u,h1,h2⟩:=Wek (P:=P) (ρ:=ρ) (w:=w) (v:=a.eval) hev (fun x hx=>Qjh hR hu x hx);left;unfold Oper.wp;rw[h2,Oper.upon_panic];exact hK u ρ w h1 hR (Ex.refl _ _ _)
end
end Go.Proofs.YtgloldepdhgfaaaGreatDoor
namespace Go.Proofs.YtgloldepdhgfaaaGreatDoor
set_option linter.unusedSimpArgs false
set_option linter.unusedVariables false
open Go.RowKit
inductive DX where
 | nrm | ret
 | ext (id:Nat)
 | pan (d:D)
def DXM(ρ:Rho)(w:World):DX ->Exit ->Prop
 | .nrm,e=>e= .normal
 | .ret,e=>e= .ret
 | .ext i,e=>e= .exit i
 | .pan d,e=>∃u,e= .panic (Qej u)/\Rp ρ w d u
abbrev Df:=List (FuncId×List D)
abbrev DQ:=DX ->List D ->List HO ->Df ->Prop
section
variable (P : Program) (G : Nat -> Option D) (T : TypeId -> Ty) (ops : Array Oper)
def CallR(f:FuncId)(args:List D)(H:Nat ->HO)(Φ:Out ->List (Nat×HO) ->Prop):Prop :=
 ∀(ρ:Rho) (w:World) (vs:List Value),Rel G ρ w H ->RpL ρ w args vs ->(callFunc f vs.toArray).run P w= .ok (.enter f vs.toArray) w /\
  Calls P f vs.toArray w fun e w'=>∃ρ' out up,Φ out up/\Rel G ρ' w' (Qd3 H up)/\Ex ρ w H ρ' w' (Qd3 H up)/\Qmb ρ' w' out e
def Wl(f:FuncId)(args:List D)(hl:List HO)(K:Out ->List HO ->Prop):Prop:=∃Φ:Out ->List (Nat×HO) ->Prop,CallR P G f args (hOf hl) Φ/\∀out up,Φ out up ->K out (Qw hl up)
def wpS:List Oper ->List D ->List HO ->Df ->(List D ->List HO ->Df ->Prop) ->(D ->List D ->List HO ->Df ->Prop) ->Prop
 | [],tl,hl,df,K,_=>K tl hl df
 | o::r,tl,hl,df,K,QP=>match Wn ops (Wc tl) o with
  | none=>False
  | some g=>if g then match Xg T (opD G (Wc tl)) (hOf hl) hl.length o with
    | some (.val d _ up)=>wpS r (Qr tl o.dst d) (Qw hl up) df K QP
    | some (.call f args)=>Wl P G f args hl fun out hl'=>match out with
     | .ret d=>wpS r (Qr tl o.dst d) hl' df K QP
     | .pan d=>QP d tl hl' df
    | some (.pan d)=>QP d tl hl df
    | some (.dfr f cap)=>wpS r (Qr tl o.dst (.tuple [])) hl ((f,cap)::df) K QP
    | some .bit=>∀b:Bool,wpS r (Qr tl o.dst (.bool b)) hl df K QP
    | none=>False
   else wpS r (Qr tl o.dst (.tuple [])) hl df K QP
def Wcc(r:List Oper)(tl:List D)(dst:Option Tmp)(df:Df)(K:List D ->List HO ->Df ->Prop)(QP:D ->List D ->List HO ->Df ->Prop)(out:Out)(hl:List HO):Prop :=
 match out with
 | .ret d=>wpS P G T ops r (Qr tl dst d) hl df K QP
 | .pan d=>QP d tl hl df
theorem Qo(r:List Oper)(tl:List D)(dst:Option Tmp)(df:Df)(K:List D ->List HO ->Df ->Prop)(QP:D ->List D ->List HO ->Df ->Prop)(d:D)(hl:List HO):Wcc P G T ops r tl dst df K QP (.ret d) hl=wpS P G T ops r (Qr tl dst d) hl df K QP:=rfl
theorem Qp(r:List Oper)(tl:List D)(dst:Option Tmp)(df:Df)(K:List D ->List HO ->Df ->Prop)(QP:D ->List D ->List HO ->Df ->Prop)(d:D)(hl:List HO):Wcc P G T ops r tl dst df K QP (.pan d) hl=QP d tl hl df:=rfl
theorem Qx(tl:List D)(hl:List HO)(df:Df)(K:List D ->List HO ->Df ->Prop)(QP:D ->List D ->List HO ->Df ->Prop):wpS P G T ops [] tl hl df K QP=K tl hl df:=rfl
theorem Qa(o:Oper)(r:List Oper)(tl:List D)(hl:List HO)(df:Df)(K:List D ->List HO ->Df ->Prop)(QP:D ->List D ->List HO ->Df ->Prop):wpS P G T ops (o::r) tl hl df K QP=match Wn ops (Wc tl) o with
  | none=>False
  | some g=>if g then match Xg T (opD G (Wc tl)) (hOf hl) hl.length o with
    | some (.val d _ up)=>wpS P G T ops r (Qr tl o.dst d) (Qw hl up) df K QP
    | some (.call f args)=>Wl P G f args hl (Wcc P G T ops r tl o.dst df K QP)
    | some (.pan d)=>QP d tl hl df
    | some (.dfr f cap)=>wpS P G T ops r (Qr tl o.dst (.tuple [])) hl ((f,cap)::df) K QP
    | some .bit=>∀b:Bool,wpS P G T ops r (Qr tl o.dst (.bool b)) hl df K QP
    | none=>False
   else wpS P G T ops r (Qr tl o.dst (.tuple [])) hl df K QP:=rfl
end
def aftE(Q:Exit ->Act ->World ->Prop)(dst:Option Tmp)(K:Act ->World ->Prop)(a:Act)(w:World):Ending ->Prop
 | .returned u=>K (a.put dst u) w
 | .panicked ch=>Q (.panic ch) a w
 | _=>False
theorem Qpv{P:Program}{G:Nat ->Option D}{Q:Exit ->Act ->World ->Prop}{ops:Array Oper}{T:TypeId ->Ty}{o:Oper}{tm:Nat ->D}{h:Nat ->HO}{nx:Nat}(hw:Wn ops tm o=some true){f:FuncId}{args:List D}{Φ:Out ->List (Nat×HO) ->Prop}
  (hev:Xg T (opD G tm) h nx o=some (.call f args)) (hc:CallR P G f args h Φ) {ρ:Rho} {w:World} {a:Act} (hR:Rel G ρ w h) (hu:∀t,t∈Oper.looksAt ops o ->Rp ρ w (tm t) (a.tmps.getD t undef)) {K:Act ->World ->Prop}
  (hK:∀out e up ρ' w',Φ out up ->Rel G ρ' w' (Qd3 h up) ->Ex ρ w h ρ' w' (Qd3 h up) ->Qmb ρ' w' out e ->aftE Q o.dst K a w' e):Qe2 P ops Q o K a w:=by
 unfold Qe2;rw[Qbo hw hu,if_pos rfl];obtain⟨vs,h1,h2⟩:=Qk8 (P:=P) (ρ:=ρ) (w:=w) (v:=a.eval) hev (fun x hx=>Qjh hR hu x hx);obtain⟨h3,h4⟩:=hc ρ w vs hR h1;left;unfold Oper.wp;rw[h2 w,h3,Oper.upon_enter];refine h4.mono ?_;rintro e w' ⟨ρ',out,up,hphi,g1,g2,g3⟩;have:=hK out e up ρ' w' hphi g1 g2 g3;cases out with
 | ret d=>obtain⟨u,rfl, -⟩:=g3;exact this
 | pan d=>obtain⟨u,rfl, -⟩:=g3;exact this
def Qti(G:Nat ->Option D)(ρ0:Rho)(w0:World)(H0:Nat ->HO)(nt:Nat)(Q:DQ):Exit ->Act ->World ->Prop:=fun e a w =>
 ∃x tl hl df ρ,Q x tl hl df/\DXM ρ w x e/\tl.length=nt/\InSt G ρ0 w0 H0 nt ρ w a (Wc tl) (hOf hl) df
def wpD(P:Program)(G:Nat ->Option D)(M:Nat)(c:Code)(Q:DQ)(tl:List D)(hl:List HO)(df:Df):Prop :=
 ∀(ρ0:Rho) (w0:World) (H0:Nat ->HO) (ρ:Rho) (w:World) (a:Act),(∀i,M<=i ->ρ0.nm i=none) ->InSt G ρ0 w0 H0 tl.length ρ w a (Wc tl) (hOf hl) df ->c.wp P (Qti G ρ0 w0 H0 tl.length Q) a w
section
variable {P : Program} {G : Nat -> Option D} {T : TypeId -> Ty} {ops : Array Oper} {M : Nat}
theorem Qnj{tl:List D}{dst:Option Tmp}{d:D}{ρ ρ':Rho}{w w':World}{a:Act}{u:Value}(hs:a.tmps.size=tl.length)(g:Grow ρ w ρ' w')(h:∀k,Rp ρ w (Wc tl k) (a.tmps.getD k undef))(hu:Rp ρ' w' d u) :
  ∀k,Rp ρ' w' (Wc (Qr tl dst d) k) ((a.put dst u).tmps.getD k undef):=fun k=>by
 cases dst with
 | none=>exact Rp.grow g _ _ (h k)
 | some t =>
  by_cases hk:t=k
  ·subst hk;by_cases hlt:t<tl.length
   ·rw[Act.put_same (by rw[hs];exact hlt)];have:Wc (Qr tl (some t) d) t=d:=by simp[Wc,Qr,hlt]
    rw[this];exact hu
   ·have:Wc (Qr tl (some t) d) t= .junk:=by
     have hn:(tl.set t d)[t]?=none:=List.getElem?_eq_none (by rw[List.length_set];exact Nat.le_of_not_lt hlt);show(tl.set t d).getD t .junk= .junk;rw[List.getD_eq_getElem?_getD,hn];rfl
    rw[this,Rp];trivial
  ·rw[Act.put_ne (fun e=>hk (Option.some.inj e))];have:Wc (Qr tl (some t) d) k=Wc tl k:=by
    unfold Wc Qr;rw[List.getD_eq_getElem?_getD,List.getD_eq_getElem?_getD,List.getElem?_set_ne hk]
   rw[this];exact Rp.grow g _ _ (h k)
theorem InSt.put{ρ0 ρ ρ':Rho}{w0 w w':World}{H0:Nat ->HO}{tl:List D}{hl:List HO}{df:Df}{a:Act}{d:D}{u:Value}{up:List (Nat×HO)}(h:InSt G ρ0 w0 H0 tl.length ρ w a (Wc tl) (hOf hl) df)(dst:Option Tmp)
  (hu:Rp ρ' w' d u) (hR:Rel G ρ' w' (Qd3 (hOf hl) up)) (hE:Ex ρ w (hOf hl) ρ' w' (Qd3 (hOf hl) up)):InSt G ρ0 w0 H0 (Qr tl dst d).length ρ' w' (a.put dst u) (Wc (Qr tl dst d)) (hOf (Qw hl up)) df:=by
 rw[Qi5];refine⟨hR,h.ex.trans hE,Qnj h.size hE.grow h.tmp hu,by rw[Act.put_size,Xh];exact h.size,?_⟩;have:=h.df.grow hE.grow;cases dst <;> simpa [Act.put]using this
theorem Qcy(hT:∀t,Zf P t (T t)){ρ0:Rho}{w0:World}{H0:Nat ->HO}{Q:Exit ->Act ->World ->Prop}:∀(l:List Oper) (tl:List D) (hl:List HO) (df:Df) (K:List D ->List HO ->Df ->Prop) (QP:D ->List D ->List HO ->Df ->Prop),wpS P G T ops l tl hl df K QP ->
  (∀tl' hl' df' ρ w a,K tl' hl' df' ->tl'.length=tl.length ->InSt G ρ0 w0 H0 tl.length ρ w a (Wc tl') (hOf hl') df' ->Q .normal a w) ->
  (∀d u tl' hl' df' ρ w a,QP d tl' hl' df' ->tl'.length=tl.length ->InSt G ρ0 w0 H0 tl.length ρ w a (Wc tl') (hOf hl') df' ->Rp ρ w d u ->Q (.panic (Qej u)) a w) ->
  ∀ρ w a,InSt G ρ0 w0 H0 tl.length ρ w a (Wc tl) (hOf hl) df ->wpList P ops Q l a w
 | [],tl,hl,df,K,QP,h,hK,hP,ρ,w,a,hst=>hK tl hl df ρ w a h rfl hst
 | o::r,tl,hl,df,K,QP,h,hK,hP,ρ,w,a,hst=>by
  show Qe2 P ops Q o (wpList P ops Q r) a w;have hu:∀t,t∈Oper.looksAt ops o ->Rp ρ w (Wc tl t) (a.tmps.getD t undef):=fun t _=>hst.tmp t
  rw[wpS]at h;cases hw:Wn ops (Wc tl) o with
  | none=>rw[hw]at h;exact h.elim
  | some g =>
   rw[hw]at h;dsimp only at h;cases g with
   | false =>
    simp only[Bool.false_eq_true,if_false]at h;refine Qse hw hst.rel hu fun u ρ' w' h1 h2 h3=>?_
    refine Qcy hT r _ _ _ K QP h (fun tl' hl' df' ρ w a k1 k2 k3=>?_) (fun d u tl' hl' df' ρ w a k1 k2 k3 k4=>?_) ρ' w' _ (hst.put o.dst h1 h2 h3)
    ·rw[Xh]at k2 k3;exact hK _ _ _ _ _ _ k1 k2 k3
    ·rw[Xh]at k2 k3;exact hP _ _ _ _ _ _ _ _ k1 k2 k3 k4
   | true =>
    simp only[if_true]at h;cases hev:Xg T (opD G (Wc tl)) (hOf hl) hl.length o with
    | none=>rw[hev]at h;exact h.elim
    | some x =>
     rw[hev]at h;cases x with
     | val d rd up =>
      dsimp only at h;refine Qsc hT hw hev hst.rel (fun _ _=>rfl) hu fun u ρ' w' h1 h2 h3=>?_
      refine Qcy hT r _ _ _ K QP h (fun tl' hl' df' ρ w a k1 k2 k3=>?_) (fun d u tl' hl' df' ρ w a k1 k2 k3 k4=>?_) ρ' w' _ (hst.put o.dst h1 h2 h3)
      ·rw[Xh]at k2 k3;exact hK _ _ _ _ _ _ k1 k2 k3
      ·rw[Xh]at k2 k3;exact hP _ _ _ _ _ _ _ _ k1 k2 k3 k4
     | call f args =>
      dsimp only at h;obtain⟨Φ,hc,h0⟩:=h;refine Qpv hw hev hc hst.rel hu fun out e up ρ' w' hphi h2 h3 hout=>?_
      have h:=h0 out up hphi;cases out with
      | ret d =>
       obtain⟨u,rfl,h1⟩:=hout;dsimp only at h⊢;refine Qcy hT r _ _ _ K QP h (fun tl' hl' df' ρ w a k1 k2 k3=>?_) (fun d u tl' hl' df' ρ w a k1 k2 k3 k4=>?_) ρ' w' _ (hst.put o.dst h1 h2 h3)
       ·rw[Xh]at k2 k3;exact hK _ _ _ _ _ _ k1 k2 k3
       ·rw[Xh]at k2 k3;exact hP _ _ _ _ _ _ _ _ k1 k2 k3 k4
      | pan d =>
       obtain⟨u,rfl,h1⟩:=hout;dsimp only at h⊢;refine hP d u tl (Qw hl up) df ρ' w' a h rfl ?_ h1;rw[Qi5];exact⟨h2,hst.ex.trans h3,fun k=>Rp.grow h3.grow _ _ (hst.tmp k),hst.size,hst.df.grow h3.grow⟩
     | bit =>
      dsimp only at h;refine Qy6 hT hw hev hst.rel hu fun b u ρ' w' h1 h2 h3=>?_
      refine Qcy hT r _ _ _ K QP (h b) (fun tl' hl' df' ρ w a k1 k2 k3=>?_) (fun d u tl' hl' df' ρ w a k1 k2 k3 k4=>?_) ρ' w' _ (hst.put o.dst h1 h2 h3)
      ·rw[Xh]at k2 k3;exact hK _ _ _ _ _ _ k1 k2 k3
      ·rw[Xh]at k2 k3;exact hP _ _ _ _ _ _ _ _ k1 k2 k3 k4
     | pan d =>
      dsimp only at h;refine Qsd hw hev hst.rel hu fun u ρ' w' h1 h2 h3=>?_
      exact hP d u tl hl df ρ' w' a h rfl ⟨h2,hst.ex.trans h3,fun k=>Rp.grow h3.grow _ _ (hst.tmp k),hst.size,hst.df.grow h3.grow⟩ h1
     | dfr f cap =>
      dsimp only at h;unfold Qe2;rw[Qbo hw hu,if_pos rfl];obtain⟨vs,h1,h2⟩:=Quw (P:=P) (ρ:=ρ) (w:=w) (v:=a.eval) hev (fun x hx=>Qjh hst.rel hu x hx);left;unfold Oper.wp;rw[h2,Oper.upon_defer];have hst2:InSt G ρ0 w0 H0 (Qr tl o.dst (.tuple [])).length ρ w ({a with defers:={target:= .fn (.func f) vs.toArray,args:= #[]}::a.defers}.put o.dst undef) (Wc (Qr tl o.dst (.tuple []))) (hOf hl) ((f,cap)::df):=by
       refine⟨hst.rel,hst.ex,?_,by rw[Act.put_size,Xh];exact hst.size,?_⟩
       ·exact Qnj (a:={a with defers:={target:= .fn (.func f) vs.toArray,args:= #[]}::a.defers}) hst.size (Grow.refl _ _) hst.tmp (by rw[Rp];exact⟨[],rfl,Wu.2 rfl⟩)
       ·have:DfM ρ w ({target:= .fn (.func f) vs.toArray,args:= #[]}::a.defers) ((f,cap)::df):=⟨vs,a.defers,rfl,h1,hst.df⟩;cases o.dst <;> simpa [Act.put]using this
      refine Qcy hT r _ _ _ K QP h (fun tl' hl' df' ρ w a k1 k2 k3=>?_) (fun d u tl' hl' df' ρ w a k1 k2 k3 k4=>?_) ρ w _ hst2
      ·rw[Xh]at k2 k3;exact hK _ _ _ _ _ _ k1 k2 k3
      ·rw[Xh]at k2 k3;exact hP _ _ _ _ _ _ _ _ k1 k2 k3 k4
variable {Q : DQ} {tl : List D} {hl : List HO} {df : Df}
theorem Qi(hT:∀t,Zf P t (T t)){id:Nat}(h:wpS P G T ops ops.toList tl hl df (fun tl hl df=>Q .nrm tl hl df) (fun d tl hl df=>Q (.pan d) tl hl df)):wpD P G M (.region id ops false) Q tl hl df :=
 fun ρ0 w0 H0 ρ w a hbs hst=>wp_region_list (Qcy hT _ _ _ _ _ _ h (fun tl' hl' df' ρ w a k1 k2 k3=>⟨.nrm,tl',hl',df',ρ,k1,rfl,k2,k3⟩) (fun d u tl' hl' df' ρ w a k1 k2 k3 k4=>⟨.pan d,tl',hl',df',ρ,k1,⟨u,rfl,k4⟩,k2,k3⟩) ρ w a hst)
theorem Qg(h:Q .nrm tl hl df):wpD P G M .skip Q tl hl df:=fun ρ0 w0 H0 ρ w a hbs hst=>wp_skip ⟨.nrm,tl,hl,df,ρ,h,rfl,rfl,hst⟩
theorem Qe(h:Q .ret tl hl df):wpD P G M .ret Q tl hl df:=fun ρ0 w0 H0 ρ w a hbs hst=>wp_ret ⟨.ret,tl,hl,df,ρ,h,rfl,rfl,hst⟩
theorem Qad{id:Nat}(h:Q (.ext id) tl hl df):wpD P G M (.exit id) Q tl hl df:=fun ρ0 w0 H0 ρ w a hbs hst=>wp_exit ⟨.ext id,tl,hl,df,ρ,h,rfl,rfl,hst⟩
def Wk(next:List D ->List HO ->Df ->Prop)(Q:DQ):DQ
 | .nrm,tl,hl,df=>next tl hl df
 | x,tl,hl,df=>Q x tl hl df
theorem Qtm{c:Code}{Q':DQ}(h:wpD P G M c Q tl hl df)(hq:∀x tl hl df,Q x tl hl df ->Q' x tl hl df):wpD P G M c Q' tl hl df:=fun ρ0 w0 H0 ρ w a hbs hst =>
 wp_mono (h ρ0 w0 H0 ρ w a hbs hst) fun e a w ⟨x,tl,hl,df,ρ,h1,h2⟩=>⟨x,tl,hl,df,ρ,hq _ _ _ _ h1,h2⟩
theorem Qg1{x y:Code}(h:wpD P G M x (Wk (fun tl hl df=>wpD P G M y Q tl hl df) Q) tl hl df):wpD P G M (.seq x y) Q tl hl df:=fun ρ0 w0 H0 ρ w a hbs hst =>
 wp_seq (wp_mono (h ρ0 w0 H0 ρ w a hbs hst) fun e a w ⟨x,tl',hl',df',ρ',h1,h2,h3,h4⟩=>by
  cases x with
  | nrm =>
   cases h2;have:=h1 ρ0 w0 H0 ρ' w a hbs (h3▸h4);rw[h3]at this;exact this
  | ret=>cases h2;exact⟨.ret,tl',hl',df',ρ',h1,rfl,h3,h4⟩
  | ext i=>cases h2;exact⟨.ext i,tl',hl',df',ρ',h1,rfl,h3,h4⟩
  | pan d =>
   obtain⟨u,rfl,hu⟩:=h2
   exact⟨.pan d,tl',hl',df',ρ',h1,⟨u,rfl,hu⟩,h3,h4⟩)
theorem Qc{x y:Code}(h:∀K:List D ->List HO ->Df ->Prop,(∀tl hl df,wpD P G M y Q tl hl df ->K tl hl df) ->wpD P G M x (Wk K Q) tl hl df):wpD P G M (.seq x y) Q tl hl df:=Qg1 (h _ fun _ _ _ h=>h)
theorem Wcb{c:Operand}{x y:Code}{b:Bool}(hc:opD G (Wc tl) c= .bool b)(h:if b then wpD P G M x Q tl hl df else wpD P G M y Q tl hl df):wpD P G M (.cond c x y) Q tl hl df:=fun ρ0 w0 H0 ρ w a hbs hst=>by
 have hb:a.eval c= .bool b:=by
  have:Rp ρ w (opD G (Wc tl) c) (a.eval c):=by
   cases c with
   | tmp t=>exact hst.tmp t
   | const v=>exact Wfw ρ w v
   | global g=>simp only[opD]at hc;split at hc <;> cases hc
   | func f=>cases hc
  rw[hc,Rp]at this;exact this
 refine wp_cond hb ?_;cases b
 ·exact h ρ0 w0 H0 ρ w a hbs hst
 ·exact h ρ0 w0 H0 ρ w a hbs hst
theorem Qac{c:Operand}{x y:Code}{b:Bool}(hc:opD G (Wc tl) c= .bool b)(ht:b=true ->wpD P G M x Q tl hl df)(hf:b=false ->wpD P G M y Q tl hl df):wpD P G M (.cond c x y) Q tl hl df:=by
 refine Wcb hc ?_;cases b
 ·exact hf rfl
 ·exact ht rfl
def Qz(id:Nat)(Q:DQ):DQ
 | .ext i,tl,hl,df=>if i=id then Q .nrm tl hl df else Q (.ext i) tl hl df
 | x,tl,hl,df=>Q x tl hl df
theorem Wd{id:Nat}{c:Code}(h:wpD P G M c (Qz id Q) tl hl df):wpD P G M (.block id c) Q tl hl df:=fun ρ0 w0 H0 ρ w a hbs hst =>
 wp_block (wp_mono (h ρ0 w0 H0 ρ w a hbs hst) fun e a w ⟨x,tl',hl',df',ρ',h1,h2,h3,h4⟩=>by
  cases x with
  | nrm=>cases h2;exact⟨.nrm,tl',hl',df',ρ',h1,rfl,h3,h4⟩
  | ret=>cases h2;exact⟨.ret,tl',hl',df',ρ',h1,rfl,h3,h4⟩
  | ext i =>
   cases h2;show(if i=id then _ else _);simp only[Qz]at h1;by_cases hi:i=id
   ·rw[if_pos hi]at h1⊢;exact⟨.nrm,tl',hl',df',ρ',h1,rfl,h3,h4⟩
   ·rw[if_neg hi]at h1⊢;exact⟨.ext i,tl',hl',df',ρ',h1,rfl,h3,h4⟩
  | pan d =>
   obtain⟨u,rfl,hu⟩:=h2
   exact⟨.pan d,tl',hl',df',ρ',h1,⟨u,rfl,hu⟩,h3,h4⟩)
theorem Qtn{c:Code}(I:Nat ->List D ->List HO ->Df ->Prop)(n:Nat)(h0:I n tl hl df)(hr:∀n tl' hl' df',tl'.length=tl.length ->I n tl' hl' df' ->wpD P G M c (Wk (fun tl hl df=>∃m,m<n/\I m tl hl df) Q) tl' hl' df') :
  wpD P G M (.loop c) Q tl hl df:=fun ρ0 w0 H0 ρ w a hbs hst=>by
 intro b k cs;have key:∀n tl' hl' df' ρ w a,tl'.length=tl.length ->I n tl' hl' df' ->InSt G ρ0 w0 H0 tl.length ρ w a (Wc tl') (hOf hl') df' ->
   ∃e a' w',Qti G ρ0 w0 H0 tl.length Q e a' w'/\Arrives P (lone (b.at a (.code c:: .inLoop c::k)) cs w) b k cs e a' w':=by
  intro n
  induction n using Nat.strongRecOn with
  | _ n ih =>
   intro tl' hl' df' ρ w a hl1 hI hst;obtain⟨e,a₁,w₁,hq,harr⟩:=hr n tl' hl' df' hl1 hI ρ0 w0 H0 ρ w a hbs (hl1▸hst) b (.inLoop c::k) cs;rw[hl1]at hq;obtain⟨x,tl2,hl2,df2,ρ2,h1,h2,h3,h4⟩:=hq;cases x with
   | nrm =>
    cases h2;obtain⟨m,hm,hI2⟩:=h1;obtain⟨e₂,a₂,w₂,hq₂,harr₂⟩:=ih m hm tl2 hl2 df2 ρ2 w₁ a₁ h3 hI2 h4;exact⟨e₂,a₂,w₂,hq₂, .of_steps (Steps.trans harr (.one step_inLoop)) harr₂⟩
   | ret=>cases h2;exact⟨_,a₁,w₁,⟨.ret,tl2,hl2,df2,ρ2,h1,rfl,h3,h4⟩, .pass (x:= .inLoop c) rfl (fun _ _=> .inl (by simp)) harr⟩
   | ext i=>cases h2;exact⟨_,a₁,w₁,⟨.ext i,tl2,hl2,df2,ρ2,h1,rfl,h3,h4⟩, .pass (x:= .inLoop c) rfl (fun _ _=> .inl (by simp)) harr⟩
   | pan d =>
    obtain⟨u,rfl,hu⟩:=h2;exact⟨_,a₁,w₁,⟨.pan d,tl2,hl2,df2,ρ2,h1,⟨u,rfl,hu⟩,h3,h4⟩, .pass (x:= .inLoop c) rfl (fun _ _=> .inl (by simp)) harr⟩
 obtain⟨e,a',w',hq,harr⟩:=key n tl hl df ρ w a rfl h0 hst;exact⟨e,a',w',hq, .of_steps (.one step_loop) harr⟩
def Qh:List D ->List Nat ->List D ->List D
 | tl,i::r,y::ys=>Qh (tl.set i y) r ys
 | tl,_,_=>tl
theorem Qa2:∀(W:List Nat) (tl ys:List D),(Qh tl W ys).length=tl.length
 | [],tl,ys=>by cases ys <;> rfl
 | i::r,tl, []=>rfl
 | i::r,tl,y::ys=>by rw[Qh,Qa2 r];simp
def Qb4(W:List Nat)(tl:List D):List D:=W.map fun i=>tl.getD i .junk
theorem Qhp{c:Code}(W:List Nat)(I:Nat ->List D ->List HO ->Prop)(n0:Nat)(h0:tl=Qh tl W (Qb4 W tl))(hI:I n0 (Qb4 W tl) hl)
  (hr:∀n ys hl' (A:List D ->List HO ->Df ->Prop),(∀m tl2 hl2,m<n ->tl2=Qh tl W (Qb4 W tl2) ->I m (Qb4 W tl2) hl2 ->A tl2 hl2 df) ->I n ys hl' ->wpD P G M c (Wk A Q) (Qh tl W ys) hl' df):wpD P G M (.loop c) Q tl hl df:=by
 refine Qtn (fun n tl2 hl2 df2=>∃ys2,df2=df/\tl2=Qh tl W ys2/\I n ys2 hl2) n0 ⟨_,rfl,h0,hI⟩ ?_;rintro n tl' hl' df' - ⟨ys,rfl,rfl,hIn⟩;exact hr n ys hl' _ (fun m tl2 hl2 h1 h2 h3=>⟨m,h1,_,rfl,h2,h3⟩) hIn
end
end Go.Proofs.YtgloldepdhgfaaaGreatDoor
namespace Go.Proofs.YtgloldepdhgfaaaGreatDoor
set_option linter.unusedSimpArgs false
set_option linter.unusedVariables false
open Go.RowKit
def Cp.free:Cp ->Bool
 | .tok _=>false
 | _=>true
mutual
def D.pure:D ->Bool
 | .box _ _=>false
 | .map _=>false
 | .own _ _=>false
 | .ebox _ _ _ _=>false
 | .fn _ a b=>D.pures a && D.pures b
 | .iface _ d=>D.pure d
 | .tuple ds=>D.pures ds
 | .agg ds=>D.pures ds
 | .slice els c=>D.pures els && c.free
 | .ref d=>D.pure d
 | .mapc ks vs=>D.pures ks && D.pures vs
 | _=>true
def D.pures:List D ->Bool
 | []=>true
 | d::r=>D.pure d && D.pures r
end
theorem Qci{ρ ρ':Rho}{w:World}(h:ρ'.c=ρ.c){b o:Nat}{v:Value}(hc:Qbh ρ w b o v):Qbh ρ' w b o v:=by
 obtain⟨h1,h2,h3⟩:=hc;exact⟨fun k hk=>h1 k (by rw[<- h];exact hk),h2,h3⟩
mutual
theorem Qow{ρ ρ':Rho}{w:World}(hc:ρ'.c=ρ.c):∀(d:D) (v:Value),d.pure=true ->Rp ρ w d v ->Rp ρ' w d v
 | .junk,v,_,h=>by rw[Rp];trivial
 | .int k n,v,_,h=>by rw[Rp]at h⊢;exact h
 | .bool b,v,_,h=>by rw[Rp]at h⊢;exact h
 | .str s,v,_,h=>by rw[Rp]at h⊢;exact h
 | .nilp,v,_,h=>by rw[Rp]at h⊢;exact h
 | .nilf,v,_,h=>by rw[Rp]at h⊢;exact h
 | .nili,v,_,h=>by rw[Rp]at h⊢;exact h
 | .nilm,v,_,h=>by rw[Rp]at h⊢;exact h
 | .fn f a b,v,p,h=>by
  rw[D.pure,Bool.and_eq_true]at p;rw[Rp]at h⊢;obtain⟨us,vs,h1,h2,h3⟩:=h;exact⟨us,vs,h1,Qjp hc a us p.1 h2,Qjp hc b vs p.2 h3⟩
 | .iface t d,v,p,h=>by
  rw[D.pure]at p;rw[Rp]at h⊢;obtain⟨u,h1,h2⟩:=h;exact⟨u,h1,Qow hc d u p h2⟩
 | .tuple ds,v,p,h=>by
  rw[D.pure]at p;rw[Rp]at h⊢;obtain⟨u,h1,h2⟩:=h;exact⟨u,h1,Qjp hc ds u p h2⟩
 | .agg ds,v,p,h=>by
  rw[D.pure]at p;rw[Rp]at h⊢;obtain⟨u,h1,h2⟩:=h;exact⟨u,h1,Qjp hc ds u p h2⟩
 | .slice els c,v,p,h=>by
  rw[D.pure,Bool.and_eq_true]at p;rw[Rp]at h⊢;obtain⟨A,cap,sz,h1,h2,h3,h4,h5,h6,h7⟩:=h;refine⟨A,cap,sz,h1,h2,h3,h4,h5,?_,fun hne=>let ⟨b,o,h8,h9⟩:=h7 hne;⟨b,o,h8,Wfz hc els b o p.1 h9⟩⟩;cases c with
  | any=>trivial
  | full=>exact h6
  | tok i=>simp[Cp.free]at p
 | .box i off,v,p,h=>by simp[D.pure]at p
 | .map i,v,p,h=>by simp[D.pure]at p
 | .own i n,v,p,h=>by simp[D.pure]at p
 | .ebox _ _ _ _,v,p,h=>by simp[D.pure]at p
 | .mapc ks vs,v,p,h=>by
  rw[D.pure,Bool.and_eq_true]at p;rw[Rp]at h⊢;obtain⟨b,ents,clock,h1,h2,h3,h4,h5⟩:=h;exact⟨b,ents,clock,h1,by rw[hc];exact h2,h3,Qjp hc ks _ p.1 h4,Qjp hc vs _ p.2 h5⟩
 | .ref d,v,p,h=>by
  rw[D.pure]at p;obtain⟨b,o,h1,h2⟩:=Qbl.1 h;refine Qbl.2 ⟨b,o,h1,?_⟩;cases d
  case agg cs =>
   rw[D.pure]at p;exact Wbw hc cs b o p h2
  all_goals
   obtain⟨u,h3,h4⟩:=h2;exact⟨u,Qci hc h3,Qow hc _ u p h4⟩
theorem Qjp{ρ ρ':Rho}{w:World}(hc:ρ'.c=ρ.c):∀(ds:List D) (vs:List Value),D.pures ds=true ->RpL ρ w ds vs ->RpL ρ' w ds vs
 | [],vs,_,h=>by rw[Wu]at h⊢;exact h
 | d::r,vs,p,h=>by
  rw[D.pures,Bool.and_eq_true]at p;rw[Qab]at h;obtain⟨v,us,rfl,h2,h3⟩:=h;exact Qs.2 ⟨Qow hc d v p.1 h2,Qjp hc r us p.2 h3⟩
theorem Wbw{ρ ρ':Rho}{w:World}(hc:ρ'.c=ρ.c):∀(ds:List D) (b o:Nat),D.pures ds=true ->RpC ρ w ds b o ->RpC ρ' w ds b o
 | [],b,o,_,h=>Qlr
 | d::r,b,o,p,h=>by
  rw[D.pures,Bool.and_eq_true]at p;rw[Qa4]at h;obtain⟨⟨v,h1,h2⟩,h3⟩:=h;exact Qa4.2 ⟨⟨v,Qci hc h1,Qow hc d v p.1 h2⟩,Wbw hc r b (o+1) p.2 h3⟩
theorem Wfz{ρ ρ':Rho}{w:World}(hc:ρ'.c=ρ.c):∀(ds:List D) (b o:Nat),D.pures ds=true ->RpE ρ w ds b o ->RpE ρ' w ds b o
 | [],b,o,_,h=>Qgc
 | d::r,b,o,p,h=>by
  rw[D.pures,Bool.and_eq_true]at p;rw[Qa0]at h;refine Qa0.2 ⟨?_,Wfz hc r b _ p.2 h.2⟩;have h2:=h.1;cases d
  case agg cs =>
   have p1:=p.1;rw[D.pure]at p1;exact Wbw hc cs b o p1 h2
  all_goals
   obtain⟨u,h3,h4⟩:=h2;exact⟨u,Qci hc h3,Qow hc _ u p.1 h4⟩
end
theorem Qls{ρ ρ':Rho}{w:World}(hc:ρ'.c=ρ.c){d:D}{b o:Nat}(p:d.pure=true)(h:Qvg ρ w d b o):Qvg ρ' w d b o:=by
 have:Rp ρ' w (.ref d) (.pointer (some ⟨b,o,none⟩)):=Qow hc (.ref d) _ (by rw[D.pure];exact p) (Qbl.2 ⟨b,o,rfl,h⟩);obtain⟨b',o',h1,h2⟩:=Qbl.1 this;cases h1;exact h2
mutual
def D.fgt:D ->D
 | .agg ds=> .agg (D.fgts ds)
 | .tuple ds=> .tuple (D.fgts ds)
 | .slice els _=> .slice els .any
 | .iface t d=> .iface t (D.fgt d)
 | d=>d
def D.fgts:List D ->List D
 | []=> []
 | d::r=>D.fgt d::D.fgts r
end
mutual
theorem Qrc{ρ:Rho}{w:World}:∀(d:D) (v:Value),Rp ρ w d v ->Rp ρ w d.fgt v
 | .agg ds,v,h=>by
  rw[D.fgt];rw[Rp]at h⊢;obtain⟨u,h1,h2⟩:=h;exact⟨u,h1,Qjc ds u h2⟩
 | .tuple ds,v,h=>by
  rw[D.fgt];rw[Rp]at h⊢;obtain⟨u,h1,h2⟩:=h;exact⟨u,h1,Qjc ds u h2⟩
 | .iface t d,v,h=>by
  rw[D.fgt];rw[Rp]at h⊢;obtain⟨u,h1,h2⟩:=h;exact⟨u,h1,Qrc d u h2⟩
 | .slice els c,v,h=>by
  rw[D.fgt];rw[Rp]at h⊢;obtain⟨A,cap,sz,h1,h2,h3,h4,h5,h6,h7⟩:=h;exact⟨A,cap,sz,h1,h2,h3,h4,h5,trivial,h7⟩
 | .junk,v,h=>h
 | .int _ _,v,h=>h
 | .bool _,v,h=>h
 | .str _,v,h=>h
 | .nilp,v,h=>h
 | .nilf,v,h=>h
 | .nili,v,h=>h
 | .nilm,v,h=>h
 | .fn _ _ _,v,h=>h
 | .box _ _,v,h=>h
 | .map _,v,h=>h
 | .own _ _,v,h=>h
 | .ebox _ _ _ _,v,h=>h
 | .mapc _ _,v,h=>h
 | .ref _,v,h=>h
theorem Qjc{ρ:Rho}{w:World}:∀(ds:List D) (vs:List Value),RpL ρ w ds vs ->RpL ρ w (D.fgts ds) vs
 | [],vs,h=>by rw[D.fgts];exact h
 | d::r,vs,h=>by
  rw[D.fgts];rw[Qab]at h;obtain⟨v,us,rfl,h2,h3⟩:=h;exact Qs.2 ⟨Qrc d v h2,Qjc r us h3⟩
end
def Out.fgt:Out ->Out
 | .ret d=> .ret d.fgt
 | .pan d=> .pan d.fgt
def Out.pure:Out ->Bool
 | .ret d=>d.pure
 | .pan d=>d.pure
theorem Qmb.fgt{ρ:Rho}{w:World}{out:Out}{e:Ending}(h:Qmb ρ w out e):Qmb ρ w out.fgt e:=by
 cases out with
 | ret d=>obtain⟨u,h1,h2⟩:=h;exact⟨u,h1,Qrc _ _ h2⟩
 | pan d=>obtain⟨u,h1,h2⟩:=h;exact⟨u,h1,Qrc _ _ h2⟩
theorem Qmb.nm{ρ ρ':Rho}{w:World}(hc:ρ'.c=ρ.c){out:Out}{e:Ending}(p:out.pure=true)(h:Qmb ρ w out e):Qmb ρ' w out e:=by
 cases out with
 | ret d=>obtain⟨u,h1,h2⟩:=h;exact⟨u,h1,Qow hc _ _ p h2⟩
 | pan d=>obtain⟨u,h1,h2⟩:=h;exact⟨u,h1,Qow hc _ _ p h2⟩
def Spec(P:Program)(G:Nat ->Option D)(f:FuncId)(args:List D)(hc:List HO)(Post:Out ->List HO ->Prop):Prop :=
 ∀(ρ:Rho) (w:World) (vs:List Value),Rel G ρ w (hOf hc) ->RpL ρ w args vs ->(callFunc f vs.toArray).run P w= .ok (.enter f vs.toArray) w /\
  Calls P f vs.toArray w fun e w'=>∃ρ' out hc',Post out hc'/\Qmb ρ' w' out e/\Rel G ρ' w' (hOf hc')/\Ex ρ w (hOf hc) ρ' w' (hOf hc')
section
variable {P : Program} {G : Nat -> Option D}
theorem Qde.pure(hG:∀g d,G g=some d ->d.pure=true){f:FuncId}{args args':List D}{out:Out}(h:Spec P G f args [] (fun o _=>o.fgt=out))(ha:D.fgts args'=args)(hp:D.pures args=true)(ho:out.pure=true)(hh:Nat ->HO):Qde P G f args' hh out [] []:=by
 intro ρ w H vs hR _ hvs
 let ρc:Rho:=⟨ρ.c,fun _=>none⟩
 have hRc:Rel G ρc w (hOf []):=⟨fun _ _=>rfl,hR.fresh,fun i b f h=>(by cases h),fun i j b f g h=>(by cases h),fun g d hd=>Qls (ρ:=ρ) (ρ':=ρc) rfl (hG g d hd) (hR.glob g d hd)⟩;have hvs':RpL ρ w args vs:=by rw[<- ha];exact Qjc _ _ hvs
 obtain⟨h1,h2⟩:=h ρc w vs hRc (Qjp (ρ:=ρ) (ρ':=ρc) rfl args vs hp hvs');refine⟨h1,h2.mono ?_⟩;rintro e w' ⟨ρ',o,hc',hpost,hout,hR',hE⟩;have hnl:∀b,¬ Qmc ρc (hOf []) b:=fun b ⟨i,f,h,_⟩=>by cases h
 have g:Grow ρ w ⟨ρ'.c,ρ.nm⟩ w':=⟨hE.grow.os,hE.grow.tape,hE.grow.output,hE.grow.size,hE.grow.whole,hE.grow.part,fun _ _ h=>h⟩;have hfr:∀b,b<w.heap.size ->w'.heap[b]?=w.heap[b]?/\ρ'.c b=ρ.c b:=fun b hb=>hE.frame b hb (hnl b)
 refine⟨⟨ρ'.c,ρ.nm⟩,⟨hR.free,hR'.fresh,fun i b f h=>?_,hR.inj,fun gg d hd=>Qls (ρ:=ρ') (ρ':=⟨ρ'.c,ρ.nm⟩) rfl (hG gg d hd) (hR'.glob gg d hd)⟩,⟨g,fun b hb _=>hfr b hb,fun b hl hb=>hl⟩,?_⟩
 ·have h3:=hR.obj i b f h;show Qey _ w' b f (H i);cases hlv:(H i).live with
  | false =>
   revert hlv h3;generalize H i=ho;intro h3 hlv
   cases ho <;> first | exact trivial | cases hlv
  | true=>exact h3.keep g (hfr b (h3.lt hlv)).1 (hfr b (h3.lt hlv)).2
 ·have:=hout.fgt;rw[hpost]at this;exact this.nm (ρ:=ρ') (ρ':=⟨ρ'.c,ρ.nm⟩) rfl ho
def Qyq(T:TypeId ->Ty)(hl:List HO)(tl:List D):ResultVar ->Option D
 | .tmp t=>match Wc tl t with
  | .junk=>none
  | d=>some d
 | .cell a t=>match Wc tl a with
  | .box i off=>match hOf hl i with
   | .cells _ ds=>if(T t).k.known then Ws (T t) ds off else none
   | _=>none
  | _=>none
def Qta(T:TypeId ->Ty)(hl:List HO)(tl:List D):List ResultVar ->Option (List D)
 | []=>some []
 | r::rs=>match Qyq T hl tl r,Qta T hl tl rs with
  | some d,some ds=>some (d::ds)
  | _,_=>none
def Qfk(T:TypeId ->Ty)(hl:List HO)(tl:List D)(rs:List ResultVar):Option D :=
 match Qta T hl tl rs with
 | some [d]=>some d
 | some ds=>some (.tuple ds)
 | none=>none
variable {T : TypeId -> Ty}
theorem Qyp(hT:∀t,Zf P t (T t)){ρ0 ρ:Rho}{w0 w:World}{H0:Nat ->HO}{nt:Nat}{tl:List D}{hl:List HO}{df:Df}{a:Act}(hst:InSt G ρ0 w0 H0 nt ρ w a (Wc tl) (hOf hl) df){r:ResultVar}{d:D}(h:Qyq T hl tl r=some d) :
  ∃u,(match r with | .tmp t=>(pure (a.tmps.getD t undef):Sem Value) | .cell x t=>do loadVar t (<- asAddr (a.tmps.getD x undef))).run P w= .ok u w/\Rp ρ w d u:=by
 cases r with
 | tmp t =>
  have h1:=hst.tmp t;refine⟨_,rfl,?_⟩;simp only[Qyq]at h;split at h
  ·cases h
  ·cases h;exact h1
 | cell x t =>
  have h1:=hst.tmp x;simp only[Qyq]at h;split at h
  ·rename_i i off hb;split at h
   ·rename_i ty ds hi;split at h
    ·rename_i hk;rw[hb]at h1;obtain⟨b,f,vs,hv, -, -,hh,hr⟩:=Qh0 hst.rel hi h1;obtain⟨us,h2,h3,h4⟩:=Qix h hr (Qdf (hT t) hk)
     have:=Qdq (P:=P) (hT t) hk (b:=b) (o:=off) h2 (Qdf (hT t) hk) (w:=w) (fun j u hu=>by
      have:=h3 j u hu
      simp[World.cell?,hh,this])
     refine⟨_,?_,h4⟩;dsimp only;rw[Sem.run_bind,hv];simp[asAddr,this]
    ·cases h
   ·cases h
  ·cases h
theorem Qra(hT:∀t,Zf P t (T t)){ρ0 ρ:Rho}{w0 w:World}{H0:Nat ->HO}{nt:Nat}{tl:List D}{hl:List HO}{df:Df}{a:Act}(hst:InSt G ρ0 w0 H0 nt ρ w a (Wc tl) (hOf hl) df):∀{rs:List ResultVar} {ds:List D},Qta T hl tl rs=some ds ->
  ∃us:List Value,(rs.mapM fun(r:ResultVar)=>(match r with | .tmp t=>(pure (a.tmps.getD t undef):Sem Value) | .cell x t=>do loadVar t (<- asAddr (a.tmps.getD x undef)))).run P w= .ok us w/\RpL ρ w ds us
 | [],ds,h=>by simp only[Qta]at h;cases h;exact⟨[],rfl,Wu.2 rfl⟩
 | r::rs,ds,h=>by
  simp only[Qta]at h;cases h1:Qyq T hl tl r with
  | none=>rw[h1]at h;cases h
  | some d =>
   cases h2:Qta T hl tl rs with
   | none=>rw[h1,h2]at h;cases h
   | some ds' =>
    rw[h1,h2]at h;cases h;obtain⟨u,g1,g2⟩:=Qyp (P:=P) hT hst h1;obtain⟨us,g3,g4⟩:=Qra hT hst h2;refine⟨u::us,?_,Qs.2 ⟨g2,g4⟩⟩;rw[List.mapM_cons,Sem.run_bind,g1];simp only[Result.andThen_ok,Sem.run_bind,g3,Sem.run_pure]
theorem Qgf(hT:∀t,Zf P t (T t)){ρ0 ρ:Rho}{w0 w:World}{H0:Nat ->HO}{nt:Nat}{tl:List D}{hl:List HO}{df:Df}{a:Act}(hst:InSt G ρ0 w0 H0 nt ρ w a (Wc tl) (hOf hl) df){fn:Func}{d:D}(h:Qfk T hl tl fn.results.toList=some d) :
  ∃u,(results fn a.tmps).run P w= .ok u w/\Rp ρ w d u:=by
 unfold Qfk at h;cases hds:Qta T hl tl fn.results.toList with
 | none=>rw[hds]at h;cases h
 | some ds =>
  rw[hds]at h;obtain⟨us,h1,h2⟩:=Qra (P:=P) hT hst hds;have hrun:(results fn a.tmps).run P w= .ok (if h:us.toArray.size=1 then us.toArray[0] else .tuple us.toArray) w:=by
   unfold results;rw[Sem.run_bind,<- Array.toArray_toList (xs:=fn.results),List.mapM_toArray,Sem.run_map];have h1':=h1
   erw [h1']
   rfl
  have hlen:=h2.length;by_cases h3:ds.length=1
  ·obtain⟨d1,rfl⟩:=List.length_eq_one_iff.1 h3;obtain⟨u1,rfl⟩:=List.length_eq_one_iff.1 (hlen.trans h3);cases h;exact⟨u1,by rw[hrun];rfl,(Qs.1 h2).1⟩
  ·have hd:d= .tuple ds:=by
    match ds,h,h3 with
    | [],h,_=>cases h;rfl
    | [x],_,h3=>exact absurd rfl h3
    | x::y::r,h,_=>cases h;rfl
   subst hd;refine⟨.tuple us.toArray,?_,by rw[Rp];exact⟨us,rfl,h2⟩⟩;rw[hrun,dif_neg (by simpa [hlen]using h3)]
def Qk(T:TypeId ->Ty)(rs:List ResultVar)(Post:Out ->List HO ->Prop):DQ:=fun x tl hl df=>df= []/\match x with
 | .nrm | .ret=>match Qfk T hl tl rs with
  | some d=>Post (.ret d) hl
  | none=>False
 | .pan d=>Post (.pan d) hl
 | .ext _=>False
theorem Qk.ret{rs:List ResultVar}{Post:Out ->List HO ->Prop}{tl:List D}{hl:List HO}{d:D}(h:Qfk T hl tl rs=some d)(hp:Post (.ret d) hl):Qk T rs Post .ret tl hl []:=⟨rfl,by rw[h];exact hp⟩
theorem Qk.nrm{rs:List ResultVar}{Post:Out ->List HO ->Prop}{tl:List D}{hl:List HO}{d:D}(h:Qfk T hl tl rs=some d)(hp:Post (.ret d) hl):Qk T rs Post .nrm tl hl []:=⟨rfl,by rw[h];exact hp⟩
theorem Qk.pan{rs:List ResultVar}{Post:Out ->List HO ->Prop}{tl:List D}{hl:List HO}{d:D}(hp:Post (.pan d) hl):Qk T rs Post (.pan d) tl hl []:=⟨rfl,hp⟩
theorem Qde.toR{f:FuncId}{args:List D}{H:Nat ->HO}{out:Out}{rd:List Nat}{up:List (Nat×HO)}(h:Qde P G f args H out rd up):CallR P G f args H (fun o u=>o=out/\u=up):=fun ρ w vs hR hvs =>
 let ⟨h1,h2⟩:=h ρ w H vs hR (fun _ _=>rfl) hvs
 ⟨h1,h2.mono fun e w' ⟨ρ',g1,g2,g3⟩=>⟨ρ',out,up,⟨rfl,rfl⟩,g1,g2,g3⟩⟩
theorem Wl.pure(hG:∀g d,G g=some d ->d.pure=true){f:FuncId}{args args':List D}{out:Out}(h:Spec P G f args [] (fun o _=>o.fgt=out)){hl:List HO}{K:Out ->List HO ->Prop}(hK:K out hl)(ha:D.fgts args'=args)(hp:D.pures args=true)(ho:out.pure=true):Wl P G f args' hl K :=
 ⟨fun o up=>o=out/\up= [],(Qde.pure hG h ha hp ho _).toR,fun o up ⟨h1,h2⟩=>by subst h1;subst h2;exact hK⟩
theorem Wb5(hT:∀t,Zf P t (T t)){f:FuncId}{fn:Func}{c:Code}{args:List D}{hc:List HO}{Post:Out ->List HO ->Prop}(hf:P.funcs[f]?=some fn)(hb:fn.body=some c)(hcf:∀(vs:Array Value) (w:World),(callFunc f vs).run P w= .ok (.enter f vs) w){n:Nat}{rs:List ResultVar}(hn:fn.ntmps=n)(hrs:fn.results.toList=rs)
  (h:wpD P G hc.length c (Qk T rs Post) (args++List.replicate (n - args.length) (.tuple [])) hc []):Spec P G f args hc Post:=by
 intro ρ w vs hR hvs;refine⟨hcf _ _,?_⟩;have hlen:=hvs.length;refine calls_of_wp hf hb ?_;subst hrs;have htl:(vs.toArray++Array.replicate (fn.ntmps - vs.toArray.size) undef)=(vs++List.replicate (n - args.length) undef).toArray:=by
  apply Array.ext';simp[hn,hlen]
 rw[htl];have hrp:RpL ρ w (args++List.replicate (n - args.length) (.tuple [])) (vs++List.replicate (n - args.length) undef):=by
  refine hvs.append ?_;generalize n - args.length=m
  induction m with
  | zero=>exact Wu.2 rfl
  | succ m ih=>rw[List.replicate_succ,List.replicate_succ];exact Qs.2 ⟨by rw[Rp];exact⟨[],rfl,Wu.2 rfl⟩,ih⟩
 refine wp_mono (h ρ w (hOf hc) ρ w {tmps:=(vs++List.replicate (n - args.length) undef).toArray,defers:= []} (fun i hi=>hR.free i (by unfold hOf;rw[List.getD_eq_getElem?_getD,List.getElem?_eq_none hi];rfl)) ⟨hR,Ex.refl _ _ _,fun k=>?_,?_,rfl⟩) ?_
 ·unfold Wc;rw[Array.getD_eq_getD_getElem?,List.getElem?_toArray];cases hk:(args++List.replicate (n - args.length) (D.tuple []))[k]? with
  | none=>rw[List.getD_eq_getElem?_getD,hk];show Rp ρ w .junk _;rw[Rp];trivial
  | some d =>
   obtain⟨u,h1,h2⟩:=hrp.get hk;rw[List.getD_eq_getElem?_getD,hk,h1];exact h2
 ·simpa using hrp.length
 ·rintro e a w' ⟨x,tl,hl,df,ρ',⟨hdf,hq⟩,hx,htl,hst⟩;subst hdf;have hd:a.defers= []:=hst.df;cases x with
  | nrm =>
   cases hx;cases ht:Qfk T hl tl fn.results.toList with
   | none=>rw[ht]at hq;exact hq.elim
   | some d =>
    rw[ht]at hq;obtain⟨u,h1,h2⟩:=Qgf (P:=P) hT hst ht;exact⟨hd,u,h1,ρ', .ret d,hl,hq,⟨u,rfl,h2⟩,hst.rel,hst.ex⟩
  | ret =>
   cases hx;cases ht:Qfk T hl tl fn.results.toList with
   | none=>rw[ht]at hq;exact hq.elim
   | some d =>
    rw[ht]at hq;obtain⟨u,h1,h2⟩:=Qgf (P:=P) hT hst ht;exact⟨hd,u,h1,ρ', .ret d,hl,hq,⟨u,rfl,h2⟩,hst.rel,hst.ex⟩
  | ext i=>exact hq.elim
  | pan d =>
   obtain⟨u,rfl,hu⟩:=hx;exact⟨hd,ρ', .pan d,hl,hq,⟨u,rfl,hu⟩,hst.rel,hst.ex⟩
end
theorem Qbu{n:Int}(h1: -9223372036854775808<=n)(h2:n<=9223372036854775807):IntKind.i64.wrap n=n:=by
 exact IntWalk.i64_in n ⟨h1,h2⟩
theorem D.pures_map{α:Type}(f:α ->D):∀l:List α,D.pures (l.map f)=l.all fun x=>(f x).pure
 | []=>by rw[List.map_nil,D.pures];rfl
 | x::r=>by rw[List.map_cons,D.pures,D.pures_map f r];rfl
end Go.Proofs.YtgloldepdhgfaaaGreatDoor
namespace Go.Proofs.YtgloldepdhgfaaaGreatDoor
set_option linter.unusedSimpArgs false
set_option linter.unusedVariables false
open Go.RowKit
theorem Qv6{ops:Array Oper}{listed:Array Bool}(hback:∀i j,Qaz ops i j=true ->j<i)(hs:listed.size=ops.size)(h:Region.ready .any ops listed= []):∀k,k<ops.size ->listed.getD k false=true:=by
 intro k
 induction k using Nat.strongRecOn with
 | _ k ih =>
  intro hk;cases hl:listed.getD k true with
  | true =>
   have:k<listed.size:=by omega
   simp[this]at hl⊢;exact hl
  | false =>
   exfalso
   have hm:k∈Region.ready .any ops listed:=mem_ready.2 ⟨hl,ops[k],Array.getElem?_eq_getElem hk,fun e he hbd=>by
    have h1:Qaz ops k e.on=true:=by
     unfold Qaz;rw[Array.getElem?_eq_getElem hk];simp only[Option.map_some,Option.getD_some,List.any_eq_true,Bool.and_eq_true,beq_iff_eq];exact⟨e,by simpa using he,hbd,rfl⟩
    have h2:=hback k e.on h1
    exact ih e.on h2 (by omega)⟩
   rw[h]at hm;cases hm
def Wbg(ops:Array Oper):Bool:=(List.range ops.size).all fun i=>((ops[i]?).map (·.after.toList.all fun e=>!Region.binds .any e || decide (e.on<i))).getD true
theorem Qxj{ops:Array Oper}(h:Wbg ops=true):∀i j,Qaz ops i j=true ->j<i:=fun i j hw=>by
 unfold Qaz at hw;cases ho:ops[i]? with
 | none=>rw[ho]at hw;cases hw
 | some o =>
  have hi:i<ops.size:=(Array.getElem?_eq_some_iff.1 ho).1;have h1:=(List.all_eq_true.1 h) i (List.mem_range.2 hi);rw[ho]at hw h1;simp only[Option.map_some,Option.getD_some,List.any_eq_true,List.all_eq_true,Bool.and_eq_true,Bool.or_eq_true,Bool.not_eq_true',decide_eq_true_eq,beq_iff_eq]at hw h1;obtain⟨e,he,hb,rfl⟩:=hw;exact(h1 e he).resolve_left (by rw[hb];simp)
section
variable {P : Program} {G : Nat -> Option D} {Q : Exit -> Act -> World -> Prop} {ops : Array Oper} {ρ0 : Rho} {w0 : World} {H0 : Nat -> HO} {nt : Nat} {t0 : Nat -> D} {h0 : Nat -> HO} {df : Df} {tr : Nat -> Ev}
theorem Qxt(hback:∀i j,Qaz ops i j=true ->j<i)(hord:Qbw ops nt (Wed tr)=true)(hgood:Good P G Q ops t0 h0 tr)
  (hpan:∀i,i<ops.size ->(tr i).k= .pan ->∀ρ w a u,Rp ρ w (tr i).d u ->InSt G ρ0 w0 H0 nt ρ w a (Qwt ops t0) (Qqa ops.size tr h0) df ->Q (.panic (Qej u)) a w)
  (hend:(∀i,i<ops.size ->(tr i).k= .ok) ->∀ρ w a,InSt G ρ0 w0 H0 nt ρ w a (tmU ops tr t0 Qj5 ops.size) (hU tr h0 Qj5 ops.size) df ->Q .normal a w) :
  ∀(fuel:Nat) (listed:Array Bool) (a:Act) (w:World),listed.size=ops.size ->((List.range ops.size).countP fun k=>!(listed.getD k false))<=fuel ->Mid P G ops ρ0 w0 H0 nt t0 h0 df tr (fun k=>listed.getD k false) a w ->wpAny P .any ops Q fuel listed a w:=by
 have hQ:∀{listed:Array Bool} {a:Act} {w:World},(∀k,k<ops.size ->listed.getD k false=true) ->Mid P G ops ρ0 w0 H0 nt t0 h0 df tr (fun k=>listed.getD k false) a w ->Q .normal a w:=by
  intro listed a w hall hM;obtain⟨ρ,hst⟩:=hM.st;refine hend (fun i hi=>hM.ok i (hall i hi) hi) ρ w a ?_;have e1:tmU ops tr t0 (fun k=>listed.getD k false) ops.size=tmU ops tr t0 Qj5 ops.size:=by
   funext t;unfold tmU;exact Qgb _ fun j hj _=>hall j hj
  have e2:hU tr h0 (fun k=>listed.getD k false) ops.size=hU tr h0 Qj5 ops.size:=by
   funext t;unfold hU;exact Qgb _ fun j hj _=>hall j hj
  rw[e1,e2]at hst;exact hst
 intro fuel
 induction fuel with
 | zero =>
  intro listed a w hs hc hM;have hall:∀k,k<ops.size ->listed.getD k false=true:=fun k hk=>by
   have:=List.countP_eq_zero.1 (Nat.le_zero.1 hc) k (List.mem_range.2 hk);simpa using this
  refine⟨?_,hQ hall hM⟩;cases hr:Region.ready .any ops listed with
  | nil=>rfl
  | cons j r =>
   exfalso;have hj:j∈Region.ready .any ops listed:=by rw[hr];exact List.mem_cons_self ..
   obtain⟨h0,o,ho, -⟩:=mem_ready.1 hj;have hlt:j<ops.size:=(Array.getElem?_eq_some_iff.1 ho).1;have:=hall j hlt;have hl:j<listed.size:=by omega
   simp[hl]at h0 this;rw[h0]at this;cases this
 | succ fuel ih =>
  intro listed a w hs hc hM;refine⟨fun hr=>hQ (Qv6 hback hs hr) hM,fun i hi=>?_⟩;obtain⟨hl0,o,ho,hafter⟩:=mem_ready.1 hi;have hlt:i<ops.size:=(Array.getElem?_eq_some_iff.1 ho).1;have hl:i<listed.size:=by omega
  have hun:listed.getD i false=false:=by simp[hl]at hl0⊢;exact hl0
  have hs':(listed.setIfInBounds i true).size=ops.size:=by simpa using hs
  have hset:(listed.setIfInBounds i true).getD i false=true:=by simp[hl]
  have hne:∀j,j≠i ->(listed.setIfInBounds i true).getD j false=listed.getD j false:=fun j hj=>getD_set_ne false (Ne.symm hj)
  have hc':((List.range ops.size).countP fun k=>!((listed.setIfInBounds i true).getD k false))<=fuel:=by
   have hmono:∀(l:List Nat),(l.countP fun k=>!((listed.setIfInBounds i true).getD k false))<=(l.countP fun k=>!(listed.getD k false)):=fun l =>
    List.countP_mono_left (fun k _ hk=>by
     by_cases hki:k=i
     ·subst hki;simp[hl]at hk
     ·rwa [hne k hki]at hk)
   have hsplit:∀(l:List Nat),i∈l ->(l.countP fun k=>!((listed.setIfInBounds i true).getD k false))<(l.countP fun k=>!(listed.getD k false)):=by
    intro l
    induction l with
    | nil=>intro h;cases h
    | cons x r ihr =>
     intro h;rw[List.countP_cons,List.countP_cons];by_cases hx:x=i
     ·subst hx;have h1:=hmono r;have h2:(!((listed.setIfInBounds x true).getD x false))=false:=by rw[hset];rfl
      have h3:(!(listed.getD x false))=true:=by rw[hun];rfl
      simp only[h2,h3,Bool.false_eq_true,if_false,if_true];omega
     ·have hm:i∈r:=by
       cases h with
       | head=>exact absurd rfl hx
       | tail _ h=>exact h
      have h1:=ihr hm;rw[hne x hx];omega
   have:=hsplit _ (List.mem_range.2 hlt);omega
  refine Wdw hord hgood hpan hM hlt hun (fun j hj=>?_) hset hne (fun a' w' hM'=>ih _ a' w' hs' hc' hM');unfold Qaz at hj;rw[ho]at hj;simp only[Option.map_some,Option.getD_some,List.any_eq_true,Bool.and_eq_true,beq_iff_eq]at hj;obtain⟨e,he,hb,rfl⟩:=hj;exact hafter e (by simpa using he) hb
theorem Qv5(hm:P.follows .mixedOrders=true)(hback:Wbg ops=true)(hord:Qbw ops nt (Wed tr)=true)(hgood:Good P G Q ops t0 h0 tr)
  (hpan:∀i,i<ops.size ->(tr i).k= .pan ->∀ρ w a u,Rp ρ w (tr i).d u ->InSt G ρ0 w0 H0 nt ρ w a (Qwt ops t0) (Qqa ops.size tr h0) df ->Q (.panic (Qej u)) a w)
  (hend:(∀i,i<ops.size ->(tr i).k= .ok) ->∀ρ w a,InSt G ρ0 w0 H0 nt ρ w a (tmU ops tr t0 Qj5 ops.size) (hU tr h0 Qj5 ops.size) df ->Q .normal a w)
  {id:Nat} {ρ:Rho} {w:World} {a:Act} (hst:InSt G ρ0 w0 H0 nt ρ w a t0 h0 df):(Code.region id ops true).wp P Q a w:=by
 refine wp_region_any hm ?_;have hno:∀k,(Array.replicate ops.size false).getD k false=false:=fun k=>by
  rw[Array.getD_eq_getD_getElem?,Array.getElem?_replicate];split <;> simp
 refine Qxt (Qxj hback) hord hgood hpan hend ops.size (Array.replicate ops.size false) a _ (by simp) ?_ ⟨⟨ρ,?_⟩,fun i j h=>?_,fun i h=>?_⟩
 ·refine Nat.le_trans List.countP_le_length ?_;simp
 ·have e1:tmU ops tr t0 (fun k=>(Array.replicate ops.size false).getD k false) ops.size=t0:=by
   funext t
   unfold tmU;rw[Qgb (E':=fun _=>false) _ (fun j _ _=>hno j)];generalize ops.size=n
   induction n with
   | zero=>rfl
   | succ n ih=>simp only[U,Bool.false_eq_true,if_false];exact ih
  have e2:hU tr h0 (fun k=>(Array.replicate ops.size false).getD k false) ops.size=h0:=by
   funext t
   unfold hU;rw[Qgb (E':=fun _=>false) _ (fun j _ _=>hno j)];generalize ops.size=n
   induction n with
   | zero=>rfl
   | succ n ih=>simp only[U,Bool.false_eq_true,if_false];exact ih
  rw[e1,e2];obtain⟨hR,hE⟩:=Ex.drew hst.rel;exact⟨hR,hst.ex.trans hE,fun k=>Rp.grow hE.grow _ _ (hst.tmp k),hst.size,hst.df.grow hE.grow⟩
 ·rw[hno]at h;cases h
 ·rw[hno]at h;cases h
end
section
variable (P : Program) (G : Nat -> Option D) (T : TypeId -> Ty) (ops : Array Oper)
abbrev Foot:=List (List Nat×List Nat)
def Xp(f:FuncId)(args:List D)(hl:List HO)(K:Out ->List Nat ->List (Nat×HO) ->Prop):Prop:=∃out rd up,Qde P G f args (hOf hl) out rd up/\K out rd up
theorem Xp.pure{P:Program}{G:Nat ->Option D}(hG:∀g d,G g=some d ->d.pure=true){f:FuncId}{args args':List D}{out:Out}(h:Spec P G f args [] (fun o _=>o.fgt=out)){hl:List HO}{K:Out ->List Nat ->List (Nat×HO) ->Prop}(hK:K out [] [])(ha:D.fgts args'=args)(hp:D.pures args=true)(ho:out.pure=true):Xp P G f args' hl K :=
 ⟨out, [], [],Qde.pure hG h ha hp ho _,hK⟩
def Xz(pk:List (Nat×D))(i:Nat):Bool:=pk.any fun p=>Qr0 ops i p.1
def wpT:List Oper ->Nat ->List D ->List HO ->Foot ->List (Nat×D) ->(List D ->List HO ->Foot ->List (Nat×D) ->Prop) ->Prop
 | [],_,tl,hl,fp,pk,K=>K tl hl fp pk
 | o::r,i,tl,hl,fp,pk,K=>if Xz ops pk i then wpT r (i+1) (Qr tl o.dst .junk) hl (fp++ [([], [])]) pk K else match Wn ops (Wc tl) o with
  | none=>False
  | some g=>if g then match Xg T (opD G (Wc tl)) (hOf hl) hl.length o with
    | some (.val d rd up)=>wpT r (i+1) (Qr tl o.dst d) (Qw hl up) (fp++ [(rd,up.map (·.1))]) pk K
    | some (.call f args)=>Xp P G f args hl fun out rd up=>match out with
     | .ret d=>wpT r (i+1) (Qr tl o.dst d) (Qw hl up) (fp++ [(rd,up.map (·.1))]) pk K
     | .pan d=>wpT r (i+1) (Qr tl o.dst d) (Qw hl up) (fp++ [(rd,up.map (·.1))]) ((i,d)::pk) K
    | some (.pan d)=>wpT r (i+1) (Qr tl o.dst d) hl (fp++ [([], [])]) ((i,d)::pk) K
    | _=>False
   else wpT r (i+1) (Qr tl o.dst (.tuple [])) hl (fp++ [([], [])]) pk K
def Qxu(r:List Oper)(i:Nat)(tl:List D)(hl:List HO)(dst:Option Tmp)(fp:Foot)(pk:List (Nat×D))(K:List D ->List HO ->Foot ->List (Nat×D) ->Prop)(out:Out)(rd:List Nat)(up:List (Nat×HO)):Prop :=
 match out with
 | .ret d=>wpT P G T ops r (i+1) (Qr tl dst d) (Qw hl up) (fp++ [(rd,up.map (·.1))]) pk K
 | .pan d=>wpT P G T ops r (i+1) (Qr tl dst d) (Qw hl up) (fp++ [(rd,up.map (·.1))]) ((i,d)::pk) K
theorem Qt(r:List Oper)(i:Nat)(tl:List D)(hl:List HO)(dst:Option Tmp)(fp:Foot)(pk:List (Nat×D))(K:List D ->List HO ->Foot ->List (Nat×D) ->Prop)(d:D)(rd:List Nat)(up:List (Nat×HO)) :
  Qxu P G T ops r i tl hl dst fp pk K (.ret d) rd up=wpT P G T ops r (i+1) (Qr tl dst d) (Qw hl up) (fp++ [(rd,up.map (·.1))]) pk K:=rfl
theorem Qu(r:List Oper)(i:Nat)(tl:List D)(hl:List HO)(dst:Option Tmp)(fp:Foot)(pk:List (Nat×D))(K:List D ->List HO ->Foot ->List (Nat×D) ->Prop)(d:D)(rd:List Nat)(up:List (Nat×HO)) :
  Qxu P G T ops r i tl hl dst fp pk K (.pan d) rd up=wpT P G T ops r (i+1) (Qr tl dst d) (Qw hl up) (fp++ [(rd,up.map (·.1))]) ((i,d)::pk) K:=rfl
theorem Qm(i:Nat)(tl:List D)(hl:List HO)(fp:Foot)(pk:List (Nat×D))(K:List D ->List HO ->Foot ->List (Nat×D) ->Prop):wpT P G T ops [] i tl hl fp pk K=K tl hl fp pk:=rfl
theorem Qd(o:Oper)(r:List Oper)(i:Nat)(tl:List D)(hl:List HO)(fp:Foot)(pk:List (Nat×D))(K:List D ->List HO ->Foot ->List (Nat×D) ->Prop):wpT P G T ops (o::r) i tl hl fp pk K =
  if Xz ops pk i then wpT P G T ops r (i+1) (Qr tl o.dst .junk) hl (fp++ [([], [])]) pk K else match Wn ops (Wc tl) o with
  | none=>False
  | some g=>if g then match Xg T (opD G (Wc tl)) (hOf hl) hl.length o with
    | some (.val d rd up)=>wpT P G T ops r (i+1) (Qr tl o.dst d) (Qw hl up) (fp++ [(rd,up.map (·.1))]) pk K
    | some (.call f args)=>Xp P G f args hl (Qxu P G T ops r i tl hl o.dst fp pk K)
    | some (.pan d)=>wpT P G T ops r (i+1) (Qr tl o.dst d) hl (fp++ [([], [])]) ((i,d)::pk) K
    | some (.dfr _ _)=>False
    | some .bit=>False
    | none=>False
   else wpT P G T ops r (i+1) (Qr tl o.dst (.tuple [])) hl (fp++ [([], [])]) pk K:=by
 rw[wpT];cases Xz ops pk i with
 | true=>rfl
 | false =>
  cases Wn ops (Wc tl) o with
  | none=>rfl
  | some g =>
   cases g with
   | false=>rfl
   | true =>
    simp only[if_true,Bool.false_eq_true,if_false];cases Xg T (opD G (Wc tl)) (hOf hl) hl.length o with
    | none=>rfl
    | some x=>cases x <;> rfl
theorem Wr{o:Oper}{r:List Oper}{i:Nat}{tl:List D}{hl:List HO}{fp:Foot}{pk:List (Nat×D)}{K:List D ->List HO ->Foot ->List (Nat×D) ->Prop}(h:Xz ops pk i=true)
  (hk:wpT P G T ops r (i+1) (Qr tl o.dst .junk) hl (fp++ [([], [])]) pk K):wpT P G T ops (o::r) i tl hl fp pk K:=by
 rw[Qd,if_pos h];exact hk
end
def fpAt(fp:Foot)(i:Nat):List Nat×List Nat:=fp.getD i ([], [])
def Qky(ops:Array Oper)(tl:List D):List D:=tl.mapIdx fun t d=>if(List.range ops.size).any (fun i=>Wm ops i == some t)then .junk else d
def Xi(fp:Foot)(hl:List HO):List HO:=hl.mapIdx fun r x=>if fp.any (fun p=>p.2.contains r)then .dead else x
section
variable {P : Program} {G : Nat -> Option D} {T : TypeId -> Ty} {ops : Array Oper} {Q : Exit -> Act -> World -> Prop}
def Wfa(P:Program)(G:Nat ->Option D)(Q:Exit ->Act ->World ->Prop)(ops:Array Oper):List Oper ->Nat ->List D ->List HO ->List Ev ->List (Nat×D) ->Prop
 | [],_,_,_,evs,_=>evs= []
 | o::r,i,tl,hl,evs,pk=>∃ev L,evs=ev::L/\(match ev.k with
   | .ok=>We4 P G Q ops i o.dst (Oper.looksAt ops o) (Wc tl) (hOf hl) ev
   | .pan=>We3 P G Q ops i (Oper.looksAt ops o) (Wc tl) (hOf hl) ev
   | .nev=>Xz ops pk i=true)/\Wfa P G Q ops r (i+1) (Qr tl o.dst ev.d) (Qw hl ev.up) L (match ev.k with | .pan=>(i,ev.d)::pk | _=>pk)
def Wem:List Oper ->List Ev ->List D ->List HO ->List D×List HO
 | o::r,ev::L,tl,hl=>Wem r L (Qr tl o.dst ev.d) (Qw hl ev.up)
 | _,_,tl,hl=>(tl,hl)
def Qn5:List Ev ->Nat ->List (Nat×D) ->List (Nat×D)
 | [],_,pk=>pk
 | ev::L,i,pk=>Qn5 L (i+1) (match ev.k with | .pan=>(i,ev.d)::pk | _=>pk)
def fpL(evs:List Ev):Foot:=evs.map fun ev=>(ev.rd,ev.up.map (·.1))
theorem Qtj(hT:∀t,Zf P t (T t)):∀(l:List Oper) (i:Nat) (tl:List D) (hl:List HO) (fp:Foot) (pk:List (Nat×D)) (K:List D ->List HO ->Foot ->List (Nat×D) ->Prop),(∀j o,l[j]?=some o ->ops[i+j]?=some o) ->wpT P G T ops l i tl hl fp pk K ->
  ∃evs,Wfa P G Q ops l i tl hl evs pk/\K (Wem l evs tl hl).1 (Wem l evs tl hl).2 (fp++fpL evs) (Qn5 evs i pk)
 | [],i,tl,hl,fp,pk,K,_,h=>⟨[],rfl,by simpa [Wem,fpL,Qn5,wpT]using h⟩
 | o::r,i,tl,hl,fp,pk,K,ho,h=>by
  have hoi:ops[i]?=some o:=ho 0 o rfl;have hor:∀j o,r[j]?=some o ->ops[i+1+j]?=some o:=fun j x hj=>by
   have:=ho (j+1) x (by simpa using hj)
   rwa [show i+1+j=i+(j+1) by omega]
  -- one more
  have key:∀(ev:Ev) (pk':List (Nat×D)),pk'=(match ev.k with | .pan=>(i,ev.d)::pk | _=>pk) ->(match ev.k with
    | .ok=>We4 P G Q ops i o.dst (Oper.looksAt ops o) (Wc tl) (hOf hl) ev
    | .pan=>We3 P G Q ops i (Oper.looksAt ops o) (Wc tl) (hOf hl) ev
    | .nev=>Xz ops pk i=true) ->wpT P G T ops r (i+1) (Qr tl o.dst ev.d) (Qw hl ev.up) (fp++ [(ev.rd,ev.up.map (·.1))]) pk' K ->
    ∃evs,Wfa P G Q ops (o::r) i tl hl evs pk/\K (Wem (o::r) evs tl hl).1 (Wem (o::r) evs tl hl).2 (fp++fpL evs) (Qn5 evs i pk):=by
   intro ev pk' hpk hstep hrest;subst hpk;obtain⟨evs,h1,h2⟩:=Qtj hT r (i+1) _ _ _ _ K hor hrest;refine⟨ev::evs,⟨ev,evs,rfl,hstep,h1⟩,?_⟩;have:fp++fpL (ev::evs)=fp++ [(ev.rd,ev.up.map (·.1))]++fpL evs:=by simp[fpL]
   rw[this];exact h2
  rw[wpT]at h;cases hlate:Xz ops pk i with
  | true =>
   rw[hlate]at h;simp only[if_true]at h;exact key ⟨.nev, .junk, [], []⟩ pk rfl hlate h
  | false =>
   rw[hlate]at h;simp only[Bool.false_eq_true,if_false]at h;cases hw:Wn ops (Wc tl) o with
   | none=>rw[hw]at h;exact h.elim
   | some g =>
    rw[hw]at h;dsimp only at h;cases g with
    | false =>
     simp only[Bool.false_eq_true,if_false]at h;exact key ⟨.ok, .tuple [], [], []⟩ pk rfl (fun ρ w a H hR hH hu K hK=>Qho hoi (Qse hw hR hu hK)) h
    | true =>
     simp only[if_true]at h;cases hev:Xg T (opD G (Wc tl)) (hOf hl) hl.length o with
     | none=>rw[hev]at h;exact h.elim
     | some x =>
      rw[hev]at h;cases x with
      | val d rd up =>
       dsimp only at h;exact key ⟨.ok,d,rd,up⟩ pk rfl (fun ρ w a H hR hH hu K hK=>Qho hoi (Qsc hT hw hev hR hH hu hK)) h
      | call f args =>
       dsimp only at h;obtain⟨out,rd,up,hc,h⟩:=h;cases out with
       | ret d =>
        dsimp only at h;exact key ⟨.ok,d,rd,up⟩ pk rfl (fun ρ w a H hR hH hu K hK=>Qho hoi (Wdl hw hev hc hR hH hu hK)) h
       | pan d =>
        dsimp only at h;exact key ⟨.pan,d,rd,up⟩ ((i,d)::pk) rfl (fun ρ w a H hR hH hu K hK=>Qho hoi (Qpu hw hev hc hR hH hu hK)) h
      | pan d =>
       dsimp only at h;exact key ⟨.pan,d, [], []⟩ ((i,d)::pk) rfl (fun ρ w a H hR hH hu K hK=>Qho hoi (Qsd hw hev hR hu hK)) h
      | bit=>exact h.elim
      | dfr f cap=>exact h.elim
theorem Qx6{tl:List D}{dst:Option Tmp}{d:D}(hd:∀t,dst=some t ->t<tl.length):Wc (Qr tl dst d)=fun t=>(if dst=some t then some d else none).getD (Wc tl t):=by
 funext t
 cases dst with
 | none=>simp[Qr]
 | some k =>
  by_cases hk:k=t
  ·subst hk;have:=hd k rfl;simp[Wc,Qr,List.getD,this]
  ·have:¬ (some k=some t):=fun e=>hk (Option.some.inj e)
   simp only[this,if_false,Option.getD_none];unfold Wc Qr;rw[List.getD_eq_getElem?_getD,List.getD_eq_getElem?_getD,List.getElem?_set_ne hk]
theorem Qqm{nt:Nat}{trk:Nat ->Ev}:∀(l:List Oper) (i:Nat) (tl:List D) (hl:List HO) (evs:List Ev) (pk:List (Nat×D)),(∀j o,l[j]?=some o ->ops[i+j]?=some o) ->i+l.length=ops.size ->tl.length=nt ->(∀j t,Wm ops j=some t ->t<nt) ->
  (∀j ev,evs[j]?=some ev ->trk (i+j)=ev) ->Wfa P G Q ops l i tl hl evs pk ->∀{t0:Nat ->D} {h0:Nat ->HO},tmU ops trk t0 Qj5 i=Wc tl ->hU trk h0 Qj5 i=hOf hl ->(∀p,p∈pk ->p.1<i/\(trk p.1).k= .pan/\(trk p.1).d=p.2) ->
  (∀j,i<=j ->j<ops.size ->match (trk j).k with
   | .ok=>We4 P G Q ops j (Wm ops j) (Qfr ops j) (tmU ops trk t0 Qj5 j) (hU trk h0 Qj5 j) (trk j)
   | .pan=>We3 P G Q ops j (Qfr ops j) (tmU ops trk t0 Qj5 j) (hU trk h0 Qj5 j) (trk j)
   | .nev=>∃k,k<ops.size/\Qr0 ops j k=true/\(trk k).k= .pan)/\tmU ops trk t0 Qj5 ops.size=Wc (Wem l evs tl hl).1/\hU trk h0 Qj5 ops.size=hOf (Wem l evs tl hl).2/\(Wem l evs tl hl).1.length=nt /\
   (∀p,p∈pk ->p∈Qn5 evs i pk)/\(∀j,i<=j ->j<ops.size ->(trk j).k= .pan ->(j,(trk j).d)∈Qn5 evs i pk)/\evs.length=l.length
 | [],i,tl,hl,evs,pk,ho,hn,htl,hdt,htr,hg,t0,h0,e1,e2,hpk=>by
  have:evs= []:=hg;subst this;have hi:i=ops.size:=by simpa using hn
  subst hi;exact⟨fun j h1 h2=>by omega,e1,e2,htl,fun p hp=>hp,fun j h1 h2=>by omega,rfl⟩
 | o::r,i,tl,hl,evs,pk,ho,hn,htl,hdt,htr,hg,t0,h0,e1,e2,hpk=>by
  obtain⟨ev,L,rfl,hstep,hg⟩:=hg;have hoi:ops[i]?=some o:=ho 0 o rfl;have htri:trk i=ev:=htr 0 ev rfl;have hdst:Wm ops i=o.dst:=by unfold Wm;rw[hoi];rfl
  have hused:Qfr ops i=Oper.looksAt ops o:=by unfold Qfr;rw[hoi];rfl
  have hi:i<ops.size:=(Array.getElem?_eq_some_iff.1 hoi).1;have e1':tmU ops trk t0 Qj5 (i+1)=Wc (Qr tl o.dst ev.d):=by
   rw[Qx6 (fun t ht=>by rw[htl];exact hdt i t (by rw[hdst];exact ht))]
   funext t
   have:=congrFun e1 t;unfold tmU at this⊢;simp only[U,hdst,htri];rw[if_pos (show Qj5 i=true from rfl)];rw[this]
  have e2':hU trk h0 Qj5 (i+1)=hOf (Qw hl ev.up):=by
   rw[Qi5]
   funext t
   have:=congrFun e2 t;unfold hU at this⊢;simp only[U,htri];rw[if_pos (show Qj5 i=true from rfl)];rw[this,Qnh]
  have hpk':∀p,p∈(match ev.k with | .pan=>(i,ev.d)::pk | _=>pk) ->p.1<i+1/\(trk p.1).k= .pan/\(trk p.1).d=p.2:=by
   intro p hp;cases hk:ev.k with
   | ok=>rw[hk]at hp;obtain⟨a,b,c⟩:=hpk p hp;exact⟨by omega,b,c⟩
   | nev=>rw[hk]at hp;obtain⟨a,b,c⟩:=hpk p hp;exact⟨by omega,b,c⟩
   | pan =>
    rw[hk]at hp;cases hp with
    | head=>exact⟨by simp,by rw[htri];exact hk,by rw[htri]⟩
    | tail _ hp=>obtain⟨a,b,c⟩:=hpk p hp;exact⟨by omega,b,c⟩
  obtain⟨g1,g2,g3,g4,g5,g6,g7⟩:=Qqm r (i+1) (Qr tl o.dst ev.d) (Qw hl ev.up) L _ (fun j x hj=>by
   have:=ho (j+1) x (by simpa using hj)
   rwa [show i+1+j=i+(j+1) by omega]) (by simp at hn;omega) (by rw[Xh];exact htl) hdt (fun j x hj=>by
   have:=htr (j+1) x (by simpa using hj)
   rwa [show i+1+j=i+(j+1) by omega]) hg e1' e2' hpk'
  have hsub:∀p,p∈pk ->p∈(match ev.k with | .pan=>(i,ev.d)::pk | _=>pk):=fun p hp=>by
   cases ev.k with
   | ok=>exact hp
   | nev=>exact hp
   | pan=>exact List.mem_cons_of_mem _ hp
  refine⟨fun j h1 h2=>?_,g2,g3,g4,fun p hp=>g5 p (hsub p hp),fun j h1 h2 h3=>?_,by simp[g7]⟩
  ·by_cases hj:j=i
   ·subst hj;rw[htri,hdst,hused,e1,e2];cases hk:ev.k with
    | ok=>rw[hk]at hstep;exact hstep
    | pan=>rw[hk]at hstep;exact hstep
    | nev =>
     rw[hk]at hstep;obtain⟨p,hp,hr⟩:=List.any_eq_true.1 (show(pk.any fun p=>Qr0 ops j p.1)=true from hstep);obtain⟨a,b,c⟩:=hpk p hp;exact⟨p.1,by omega,hr,b⟩
   ·exact g1 j (by omega) h2
  ·by_cases hj:j=i
   ·subst hj;refine g5 _ ?_;rw[htri]at h3⊢;rw[h3];exact List.mem_cons_self ..
   ·exact g6 j (by omega) h2 h3
end
section
variable {P : Program} {G : Nat -> Option D} {T : TypeId -> Ty} {ops : Array Oper} {Q : DQ} {tl : List D} {hl : List HO} {df : Df} {M : Nat}
theorem Wee{evs:List Ev}{tr:Nat ->Ev}(h:∀j ev,evs[j]?=some ev ->tr j=ev){n:Nat}(hn:evs.length=n){nt:Nat}(hs:ops.size=n)(ho:Qbw ops nt (fpAt (fpL evs))=true):Qbw ops nt (Wed tr)=true:=by
 have he:∀i,i<n ->Wed tr i=fpAt (fpL evs) i:=fun i hi=>by
  have hi2:i<evs.length:=by omega
  have:=h i _ (List.getElem?_eq_getElem hi2);unfold Wed fpAt fpL;rw[this,List.getD_eq_getElem?_getD,List.getElem?_map,List.getElem?_eq_getElem hi2];rfl
 refine List.all_eq_true.2 fun i hi=>?_
 have hi':i<n:=by rw[<- hs];exact List.mem_range.1 hi
 have h1:=(List.all_eq_true.1 ho) i hi;rw[he i hi'];simp only[Bool.and_eq_true,List.all_eq_true,List.mem_range]at h1⊢;refine⟨h1.1,fun j hj=>?_⟩;have:=h1.2 j hj;unfold Qhi at this⊢;rw[he i hi',he j (by omega)];exact this
theorem Qws{ops:Array Oper}{tl:List D}:Qwt ops (Wc tl)=Wc (Qky ops tl):=by
 funext t
 unfold Qwt Wc Qky;rw[List.getD_eq_getElem?_getD,List.getD_eq_getElem?_getD,List.getElem?_mapIdx];cases tl[t]? with
 | none=>simp
 | some d=>simp
theorem Qwu{n:Nat}{tr:Nat ->Ev}{evs:List Ev}(htr:∀j ev,evs[j]?=some ev ->tr j=ev)(hn:evs.length=n){hl:List HO}{m:Nat}(hm:hl.length<=m)(hall:((fpL evs).all fun p=>p.2.all fun r=>decide (r<m))=true) :
  Qqa n tr (hOf hl)=hOf (Xi (fpL evs) (hl++List.replicate (m - hl.length) .free)):=by
 have hany:∀r,(List.range n).any (fun i=>((tr i).up.map (·.1)).contains r)=(fpL evs).any (fun p=>p.2.contains r):=fun r=>by
  rw[Bool.eq_iff_iff,List.any_eq_true,List.any_eq_true];constructor
  ·rintro⟨i,hi,hc⟩;have hi':i<evs.length:=by rw[hn];exact List.mem_range.1 hi
   rw[htr i _ (List.getElem?_eq_getElem hi')]at hc;exact⟨_,List.mem_map.2 ⟨evs[i],List.getElem_mem hi',rfl⟩,hc⟩
  ·rintro⟨p,hp,hc⟩;obtain⟨ev,hev,rfl⟩:=List.mem_map.1 hp;obtain⟨i,hi⟩:=List.getElem?_of_mem hev;have hi':i<evs.length:=(List.getElem?_eq_some_iff.1 hi).1;exact⟨i,List.mem_range.2 (by omega),by rw[htr i _ hi];exact hc⟩
 funext r
 unfold Qqa hOf Xi;rw[hany r,List.getD_eq_getElem?_getD,List.getD_eq_getElem?_getD,List.getElem?_mapIdx];by_cases hr:r<m
 ·have hlen:r<(hl++List.replicate (m - hl.length) HO.free).length:=by simp;omega
  rw[List.getElem?_eq_getElem hlen];simp only[Option.map_some,Option.getD_some];split
  ·rfl
  ·by_cases h1:r<hl.length
   ·rw[List.getElem?_eq_getElem h1,List.getElem_append_left h1];rfl
   ·rw[List.getElem?_eq_none (by omega),List.getElem_append_right (by omega)];simp
 ·have hno:(fpL evs).any (fun p=>p.2.contains r)=false:=by
   cases h:(fpL evs).any (fun p=>p.2.contains r)with
   | false=>rfl
   | true =>
    obtain⟨p,hp,hc⟩:=List.any_eq_true.1 h;have:=(List.all_eq_true.1 ((List.all_eq_true.1 hall) p hp)) r (by simpa using hc);simp at this;omega
  have h1:(hl++List.replicate (m - hl.length) HO.free).length<=r:=by simp;omega
  have h2:hl.length<=r:=by omega
  rw[hno,List.getElem?_eq_none h1,List.getElem?_eq_none h2];simp
theorem Wca(hT:∀t,Zf P t (T t))(hm:P.follows .mixedOrders=true){id:Nat}(hback:Wbg ops=true)
  (h:wpT P G T ops ops.toList 0 tl hl [] [] (fun tl' hl' fp pk=>(Qbw ops tl.length (fpAt fp) && decide (hl.length<=hl'.length) && fp.all fun p=>p.2.all fun r=>decide (r<hl'.length))=true/\(match pk with
   | []=>Q .nrm tl' hl' df
   | _=>∀p,p∈pk ->Q (.pan p.2) (Qky ops tl) (Xi fp (hl++List.replicate (hl'.length - hl.length) .free)) df))):wpD P G M (.region id ops true) Q tl hl df:=fun ρ0 w0 H0 ρ w a hbs hst=>by
 obtain⟨evs,hg,hord,hfin⟩:=Qtj (Q:=Qti G ρ0 w0 H0 tl.length Q) hT ops.toList 0 tl hl [] [] _ (fun j o hj=>by simpa using hj) h;rw[List.nil_append]at hord hfin;simp only[Bool.and_eq_true,decide_eq_true_eq]at hord;obtain⟨⟨hord,hle⟩,hall⟩:=hord
 let tr:Nat ->Ev:=fun i=>evs.getD i ⟨.ok, .junk, [], []⟩
 have htr:∀j ev,evs[j]?=some ev ->tr j=ev:=fun j ev hj=>by
  show evs.getD j _=ev;rw[List.getD_eq_getElem?_getD,hj];rfl
 have hdt:∀j t,Wm ops j=some t ->t<tl.length:=fun j t hj=>by
  by_cases hjs:j<ops.size
  ·exact(Qeo hord hjs).1 t hj
  ·unfold Wm at hj;rw[Array.getElem?_eq_none (by omega)]at hj;cases hj
 obtain⟨g1,g2,g3,g4, -,g6,g7⟩:=Qqm (P:=P) (G:=G) (Q:=Qti G ρ0 w0 H0 tl.length Q) (trk:=tr) (nt:=tl.length) ops.toList 0 tl hl evs [] (fun j o hj=>by simpa using hj) (by simp) rfl hdt (fun j ev hj=>by rw[Nat.zero_add];exact htr j ev hj) hg (t0:=Wc tl) (h0:=hOf hl) rfl rfl (by simp);have hn:evs.length=ops.size:=by simpa using g7
 have hordF:Qbw ops tl.length (Wed tr)=true:=Wee htr hn rfl hord;refine Qv5 hm hback hordF (fun i hi=>g1 i (Nat.zero_le _) hi) (fun i hi hk ρ' w' a' u hu hst'=>?_) (fun hok ρ' w' a' hst'=>?_) hst
 ·have hmem:=g6 i (Nat.zero_le _) hi hk;rw[Qws,Qwu htr hn hle hall]at hst';generalize Qn5 evs 0 []=pk at hfin hmem;cases pk with
  | nil=>cases hmem
  | cons p pk =>
   have:=hfin _ hmem;exact⟨.pan (tr i).d,_,_,df,ρ',this,⟨u,rfl,hu⟩,by simp[Qky],hst'⟩
 ·have hnil:∀(l:List Ev) (i:Nat),(∀ev,ev∈l ->ev.k= .ok) ->Qn5 l i []= []:=by
   intro l
   induction l with
   | nil=>intro i _;rfl
   | cons ev l ih =>
    intro i he;rw[Qn5,he ev (List.mem_cons_self ..)];exact ih _ fun x hx=>he x (List.mem_cons_of_mem _ hx)
  rw[hnil evs 0 (fun ev hev=>by
   obtain⟨j,hj⟩:=List.getElem?_of_mem hev;have hjl:j<evs.length:=(List.getElem?_eq_some_iff.1 hj).1;have:=hok j (by omega)
   rwa [htr j ev hj]at this)]at hfin
  rw[g2,g3]at hst';exact⟨.nrm,_,_,df,ρ',hfin,rfl,g4,hst'⟩
theorem Qxs(hT:∀t,Zf P t (T t))(hm:P.follows .mixedOrders=true){id:Nat}(hback:Wbg ops=true)
  (h:∀K:List D ->List HO ->Foot ->List (Nat×D) ->Prop,(∀tl' hl' fp pk,(Qbw ops tl.length (fpAt fp) && decide (hl.length<=hl'.length) && fp.all fun p=>p.2.all fun r=>decide (r<hl'.length))=true ->(match pk with
   | []=>Q .nrm tl' hl' df
   | _=>∀p,p∈pk ->Q (.pan p.2) (Qky ops tl) (Xi fp (hl++List.replicate (hl'.length - hl.length) .free)) df) ->K tl' hl' fp pk) ->wpT P G T ops ops.toList 0 tl hl [] [] K):wpD P G M (.region id ops true) Q tl hl df :=
 Wca hT hm hback (h _ fun _ _ _ _ h1 h2=>⟨h1,h2⟩)
end
end Go.Proofs.YtgloldepdhgfaaaGreatDoor
namespace Go.Proofs.YtgloldepdhgfaaaGreatDoor
set_option linter.unusedSimpArgs false
set_option linter.unusedVariables false
open Go.RowKit
inductive FK where
 | kb | mp | ow
def FK.isB:FK ->Bool
 | .kb=>true
 | _=>false
def FK.isM:FK ->Bool
 | .mp=>true
 | _=>false
def FK.isO:FK ->Bool
 | .ow=>true
 | _=>false
def D.isLen(n:Nat):D ->Bool
 | .slice els _=>decide (els.length=n)
 | _=>false
mutual
def D.frz(bx:FK)(i:Nat)(x:D):D ->D
 | .box j o=>if bx.isB && decide (j=i)then(if o=0 then x else .junk)else .box j o
 | .map j=>if bx.isM && decide (j=i)then x else .map j
 | .own j n=>if bx.isO && decide (j=i)then(if x.isLen n then x else .junk)else .own j n
 | .ebox j sz k o=>if bx.isO && decide (j=i)then .junk else .ebox j sz k o
 | .fn f a b=> .fn f (D.frzs bx i x a) (D.frzs bx i x b)
 | .iface t d=> .iface t (D.frz bx i x d)
 | .tuple ds=> .tuple (D.frzs bx i x ds)
 | .agg ds=> .agg (D.frzs bx i x ds)
 | .slice els c=> .slice (D.frzs bx i x els) c
 | .ref d=> .ref (D.frz bx i x d)
 | .mapc ks vs=> .mapc (D.frzs bx i x ks) (D.frzs bx i x vs)
 | d=>d
def D.frzs(bx:FK)(i:Nat)(x:D):List D ->List D
 | []=> []
 | d::r=>D.frz bx i x d::D.frzs bx i x r
end
theorem D.frzs_length(bx:FK)(i:Nat)(x:D):∀ds:List D,(D.frzs bx i x ds).length=ds.length
 | []=>rfl
 | d::r=>by rw[D.frzs,List.length_cons,D.frzs_length bx i x r];rfl
theorem D.frzs_map(bx:FK)(i:Nat)(x:D):∀ds:List D,D.frzs bx i x ds=ds.map (D.frz bx i x)
 | []=>rfl
 | d::r=>by rw[D.frzs,D.frzs_map bx i x r];rfl
def D.isAggD:D ->Bool
 | .agg _=>true
 | _=>false
theorem D.frz_size{bx:FK}{i:Nat}{x:D}(hx:x.isAggD=false)(d:D):(D.frz bx i x d).size=d.size/\(D.frz bx i x d).isAggD=d.isAggD:=by
 have hs:x.size=1:=by cases x <;> first | rfl | cases hx
 cases d <;> first | exact⟨rfl,rfl⟩ | skip
 case box j o =>
  rw[D.frz];split
  ·split
   ·exact⟨hs,hx⟩
   ·exact⟨rfl,rfl⟩
  ·exact⟨rfl,rfl⟩
 case map j =>
  rw[D.frz];split
  ·exact⟨hs,hx⟩
  ·exact⟨rfl,rfl⟩
 case own j n =>
  rw[D.frz];split
  ·split
   ·exact⟨hs,hx⟩
   ·exact⟨rfl,rfl⟩
  ·exact⟨rfl,rfl⟩
 case ebox j sz k o =>
  rw[D.frz];split
  ·exact⟨rfl,rfl⟩
  ·exact⟨rfl,rfl⟩
 case agg ds=>rw[D.frz];exact⟨D.frzs_length bx i x ds,rfl⟩
theorem Qtg{ρ:Rho}{w:World}{d:D}{b o:Nat}{u:Value}(h:d.isAggD=false)(hc:Qbh ρ w b o u)(hr:Rp ρ w d u):Qvg ρ w d b o:=by
 cases d <;> first | exact⟨u,hc,hr⟩ | cases h
structure FrzOK (ρ : Rho) (w : World) (bx : FK) (i : Nat) (x : D) : Prop where
 a:x.isAggD=false
 b:bx.isB=true ->∀v,Rp ρ w (.box i 0) v ->Rp ρ w x v
 m:bx.isM=true ->∀v,Rp ρ w (.map i) v ->Rp ρ w x v
 o:bx.isO=true ->∀n v,Rp ρ w (.own i n) v ->x.isLen n=true ->Rp ρ w x v
section
variable {ρ : Rho} {w : World} {bx : FK} {i : Nat} {x : D}
mutual
theorem Qlp(H:FrzOK ρ w bx i x):∀(d:D) (v:Value),Rp ρ w d v ->Rp ρ w (D.frz bx i x d) v
 | .junk,v,h=>h
 | .int _ _,v,h=>h
 | .bool _,v,h=>h
 | .str _,v,h=>h
 | .nilp,v,h=>h
 | .nilf,v,h=>h
 | .nili,v,h=>h
 | .nilm,v,h=>h
 | .box j o,v,h=>by
  rw[D.frz];split
  ·rename_i hc;simp only[Bool.and_eq_true,decide_eq_true_eq]at hc;split
   ·rename_i ho;subst ho;obtain⟨h1,rfl⟩:=hc;exact H.b h1 v h
   ·rw[Rp];trivial
  ·exact h
 | .map j,v,h=>by
  rw[D.frz];split
  ·rename_i hc;simp only[Bool.and_eq_true,decide_eq_true_eq]at hc;obtain⟨h1,rfl⟩:=hc;exact H.m h1 v h
  ·exact h
 | .own j n,v,h=>by
  rw[D.frz];split
  ·rename_i hc;simp only[Bool.and_eq_true,decide_eq_true_eq]at hc;split
   ·rename_i ho;obtain⟨h1,rfl⟩:=hc;exact H.o h1 n v h ho
   ·rw[Rp];trivial
  ·exact h
 | .ebox j sz k o,v,h=>by
  rw[D.frz];split
  ·rw[Rp];trivial
  ·exact h
 | .fn f a b,v,h=>by
  rw[D.frz];rw[Rp]at h⊢;obtain⟨us,vs,h1,h2,h3⟩:=h;exact⟨us,vs,h1,Qdb H a us h2,Qdb H b vs h3⟩
 | .iface t d,v,h=>by
  rw[D.frz];rw[Rp]at h⊢;obtain⟨u,h1,h2⟩:=h;exact⟨u,h1,Qlp H d u h2⟩
 | .tuple ds,v,h=>by
  rw[D.frz];rw[Rp]at h⊢;obtain⟨u,h1,h2⟩:=h;exact⟨u,h1,Qdb H ds u h2⟩
 | .agg ds,v,h=>by
  rw[D.frz];rw[Rp]at h⊢;obtain⟨u,h1,h2⟩:=h;exact⟨u,h1,Qdb H ds u h2⟩
 | .slice els c,v,h=>by
  rw[D.frz];rw[Rp]at h⊢;obtain⟨A,cap,sz,h1,h2,h3,h4,h5,h6,h7⟩:=h;rw[D.frzs_length];refine⟨A,cap,sz,h1,h2,h3,h4,fun e he=>?_,h6,fun hne=>?_⟩
  ·rw[D.frzs_map]at he;obtain⟨d,hd,rfl⟩:=List.mem_map.1 he;rw[(D.frz_size H.a d).1];exact h5 d hd
  ·have hne':els≠ []:=fun e=>hne (by rw[e];rfl)
   obtain⟨b,o,h8,h9⟩:=h7 hne';exact⟨b,o,h8,Wbv H els b o h9⟩
 | .mapc ks vs,v,h=>by
  rw[D.frz];rw[Rp]at h⊢;obtain⟨b,ents,clock,h1,h2,h3,h4,h5⟩:=h;exact⟨b,ents,clock,h1,h2,h3,Qdb H ks _ h4,Qdb H vs _ h5⟩
 | .ref d,v,h=>by
  rw[D.frz];obtain⟨b,o,h1,h2⟩:=Qbl.1 h;refine Qbl.2 ⟨b,o,h1,?_⟩;cases d
  case agg cs=>rw[D.frz];exact Qtf H cs b o h2
  all_goals
   obtain⟨u,h3,h4⟩:=h2;exact Qtg ((D.frz_size (bx:=bx) (i:=i) H.a _).2.trans rfl) h3 (Qlp H _ u h4)
theorem Qdb(H:FrzOK ρ w bx i x):∀(ds:List D) (vs:List Value),RpL ρ w ds vs ->RpL ρ w (D.frzs bx i x ds) vs
 | [],vs,h=>h
 | d::r,vs,h=>by
  rw[D.frzs];rw[Qab]at h;obtain⟨v,us,rfl,h2,h3⟩:=h;exact Qs.2 ⟨Qlp H d v h2,Qdb H r us h3⟩
theorem Qtf(H:FrzOK ρ w bx i x):∀(ds:List D) (b o:Nat),RpC ρ w ds b o ->RpC ρ w (D.frzs bx i x ds) b o
 | [],b,o,h=>h
 | d::r,b,o,h=>by
  rw[D.frzs];rw[Qa4]at h;obtain⟨⟨v,h1,h2⟩,h3⟩:=h;exact Qa4.2 ⟨⟨v,h1,Qlp H d v h2⟩,Qtf H r b (o+1) h3⟩
theorem Wbv(H:FrzOK ρ w bx i x):∀(ds:List D) (b o:Nat),RpE ρ w ds b o ->RpE ρ w (D.frzs bx i x ds) b o
 | [],b,o,h=>h
 | d::r,b,o,h=>by
  rw[D.frzs];rw[Qa0]at h;refine Qa0.2 ⟨?_,?_⟩
  ·have h2:=h.1;cases d
   case agg cs=>rw[D.frz];exact Qtf H cs b o h2
   all_goals
    obtain⟨u,h3,h4⟩:=h2;exact Qtg ((D.frz_size (bx:=bx) (i:=i) H.a _).2.trans rfl) h3 (Qlp H _ u h4)
  ·rw[(D.frz_size H.a d).1];exact Wbv H r b _ h.2
end
end
theorem Qf7{d:D}(h:d.isAggD=false):d.cells= [d]:=by cases d <;> first | rfl | cases h
theorem Qq1{bx:FK}{i:Nat}{x:D}(hx:x.isAggD=false):∀els:List D,(els.map (D.frz bx i x)).flatMap D.cells=D.frzs bx i x (els.flatMap D.cells)
 | []=>rfl
 | e::r=>by
  rw[List.map_cons,List.flatMap_cons,List.flatMap_cons,Qq1 hx r,D.frzs_map,D.frzs_map,List.map_append]
  congr 1
  cases he:e.isAggD with
  | false=>rw[Qf7 he,Qf7 ((D.frz_size (bx:=bx) (i:=i) hx e).2.trans he)];rfl
  | true =>
   cases e <;> first | (cases he;done) | skip
   rw[D.frz,D.frzs_map];rfl
def HO.frz(bx:FK)(i:Nat)(x:D):HO ->HO
 | .cells ty ds=> .cells ty (D.frzs bx i x ds)
 | .mp es=> .mp (es.map fun p=>(D.frz bx i x p.1,D.frz bx i x p.2))
 | .row sz els=> .row sz (els.map (D.frz bx i x))
 | h=>h
theorem HO.frz_live(bx:FK)(i:Nat)(x:D)(h:HO):(HO.frz bx i x h).live=h.live:=by cases h <;> rfl
def Qqn(bx:FK)(i:Nat)(x:D)(H:Nat ->HO):Nat ->HO:=fun r=>HO.frz bx i x (Qbm H i .dead r)
section
variable {G : Nat -> Option D} {ρ : Rho} {w : World} {H : Nat -> HO}
def Rho.stay(ρ:Rho)(b:Nat):Rho:=⟨fun k=>if k=b then none else ρ.c k,ρ.nm⟩
theorem Grow.stay{b:Nat}{k:Nat}(hb:ρ.c b=some k):Grow ρ w (ρ.stay b) w:=by
 refine⟨rfl,rfl,rfl,Nat.le_refl _,fun r hr h=>⟨?_,rfl⟩,fun r m hr h=>⟨?_,fun vs ty fz hh=>⟨vs,hh,rfl,fun _ _=>rfl⟩⟩,fun _ _ h=>h⟩
 ·by_cases hrb:r=b
  ·simp[Rho.stay,hrb]
  ·simp[Rho.stay,hrb,h]
 ·by_cases hrb:r=b
  ·exact .inr (by simp[Rho.stay,hrb])
  ·exact .inl ⟨m,by simp[Rho.stay,hrb,h],Nat.le_refl _⟩
theorem Ex.frz{ρ':Rho}(hR:Rel G ρ w H){bx:FK}{i:Nat}{x:D}(g:Grow ρ w ρ' w)(hnm:ρ'.nm=ρ.nm)(hfr:∀k,w.heap.size<=k ->ρ'.c k=none)(hoth:∀r b f,r≠i ->ρ.nm r=some (b,f) ->(H r).live=true ->ρ'.c b=ρ.c b)
  (hnl:∀k,¬ Qmc ρ H k ->ρ'.c k=ρ.c k) (hF:FrzOK ρ' w bx i x):Rel G ρ' w (Qqn bx i x H)/\Ex ρ w H ρ' w (Qqn bx i x H):=by
 have hfi:Qqn bx i x H i= .dead:=by unfold Qqn;rw[Xr];rfl
 have hfn:∀r,r≠i ->Qqn bx i x H r=HO.frz bx i x (H r):=fun r hr=>by unfold Qqn;rw[Wz _ _ hr]
 have hlv:∀r,(Qqn bx i x H r).live=true ->r≠i/\(H r).live=true:=fun r hr=>by
  by_cases h:r=i
  ·subst h;rw[hfi]at hr;cases hr
  ·rw[hfn r h,HO.frz_live]at hr;exact⟨h,hr⟩
 refine⟨⟨fun r hr=>?_,fun k hk=>hfr k hk,fun r b' f' h1=>?_,fun r s b' f1 f2 h1 h2 h3 h4=>hR.inj r s b' f1 f2 (hnm▸h1) (hnm▸h2) (hlv r h3).2 (hlv s h4).2,fun gg d hd=>(hR.glob gg d hd).grow g⟩,g,fun k hk hn=>⟨rfl,hnl k hn⟩,fun k hlk hk=>?_⟩
 ·by_cases h:r=i
  ·subst h;rw[hfi]at hr;cases hr
  ·rw[hfn r h]at hr;rw[hnm];refine hR.free r ?_;cases hh:H r <;> rw[hh]at hr <;> first | rfl | cases hr
 ·rw[hnm]at h1;by_cases h:r=i
  ·subst h;rw[hfi];trivial
  ·rw[hfn r h];have h2:=hR.obj r b' f' h1;cases hh:H r with
   | dead=>trivial
   | free=>trivial
   | tok =>
    rw[hh]at h2;have hbb:=hoth r b' f' h h1 (by rw[hh];rfl);exact⟨hbb.trans h2.1,h2.2⟩
   | cells ty ds =>
    rw[hh]at h2;have hbb:=hoth r b' f' h h1 (by rw[hh];rfl);obtain⟨c0,vs,e1,e2⟩:=h2;exact⟨hbb.trans c0,vs,e1,Qdb hF ds vs (RpL.grow g _ _ e2)⟩
   | row sz els =>
    rw[hh]at h2;have hbb:=hoth r b' f' h h1 (by rw[hh];rfl);obtain⟨c0,a1,a2,a3,a4,a5,ty,vs,us,e1,e2,e3⟩:=h2;refine⟨hbb.trans c0,a1,fun e he=>?_,by rw[List.length_map];exact a3,a4,by rw[List.length_map];exact a5,ty,vs,us,e1,?_,e3⟩
    ·obtain⟨e',he',rfl⟩:=List.mem_map.1 he;rw[(D.frz_size hF.a e').1];exact a2 e' he'
    ·rw[Qq1 hF.a];exact Qdb hF _ _ (RpL.grow g _ _ e2)
   | mp es =>
    rw[hh]at h2;have hbb:=hoth r b' f' h h1 (by rw[hh];rfl);obtain⟨c0,ents,clock,e1,e2,e3,e4⟩:=h2;refine⟨hbb.trans c0,ents,clock,e1,?_,?_,e4.1,by rw[List.length_map];exact e4.2⟩
    ·have:=Qdb hF _ _ (RpL.grow g _ _ e2);rw[D.frzs_map]at this;rw[List.map_map];rw[List.map_map]at this;exact this
    ·have:=Qdb hF _ _ (RpL.grow g _ _ e3);rw[D.frzs_map]at this;rw[List.map_map];rw[List.map_map]at this;exact this
 ·obtain⟨r,f',h1,h2⟩:=hlk;exact⟨r,f',hnm▸h1,(hlv r h2).2⟩
theorem Ex.stay(hR:Rel G ρ w H){bx:FK}{i b f:Nat}{x:D}(hn:ρ.nm i=some (b,f))(hl:(H i).live=true)(hc:ρ.c b=some 0)(hF:FrzOK (ρ.stay b) w bx i x) :
  Rel G (ρ.stay b) w (Qqn bx i x H)/\Ex ρ w H (ρ.stay b) w (Qqn bx i x H):=by
 refine Ex.frz hR (Grow.stay hc) rfl (fun k hk=>?_) (fun r b' f' hr h1 h2=>?_) (fun k hk=>?_) hF
 ·have:=hR.fresh k hk;by_cases h:k=b
  ·simp[Rho.stay,h]
  ·simp[Rho.stay,h,this]
 ·have hbb:b'≠b:=fun e=>by subst e;exact hr (hR.inj r i b' f' f h1 hn h2 hl)
  simp[Rho.stay,hbb]
 ·have:k≠b:=fun e=>hk ⟨i,f,by rw[e];exact hn,hl⟩
  simp[Rho.stay,this]
def Qat(T:TypeId ->Ty)(ty:TypeId)(ds:List D):D:=if(T ty).k.isAgg then .ref (.agg ds)else match ds with | [d]=> .ref d | _=> .junk
variable {P : Program} {T : TypeId -> Ty} {Q : DQ} {tl : List D} {hl : List HO} {df : Df} {M : Nat}
def Qam(bx:FK)(i:Nat)(x:D)(df:Df):Df:=df.map fun p=>(p.1,D.frzs bx i x p.2)
theorem DfM.frz{bx:FK}{i:Nat}{x:D}(hF:FrzOK ρ w bx i x):∀{df:Df} {ds:List Deferred},DfM ρ w ds df ->DfM ρ w ds (Qam bx i x df)
 | [],ds,h=>h
 | (fn,cs)::r,ds,⟨us,ds',h1,h2,h3⟩=>⟨us,ds',h1,Qdb hF _ _ h2,DfM.frz hF h3⟩
theorem InSt.frz{ρ':Rho}{ρ0:Rho}{w0:World}{H0:Nat ->HO}{nt:Nat}{a:Act}{bx:FK}{i:Nat}{x:D}(hst:InSt G ρ0 w0 H0 nt ρ w a (Wc tl) (hOf hl) df)(hl':(hOf hl i).live=true)(hF:FrzOK ρ' w bx i x)
  (hE:Rel G ρ' w (Qqn bx i x (hOf hl))/\Ex ρ w (hOf hl) ρ' w (Qqn bx i x (hOf hl))) :
  InSt G ρ0 w0 H0 nt ρ' w a (Wc (D.frzs bx i x tl)) (hOf ((hl.set i .dead).map (HO.frz bx i x))) (Qam bx i x df):=by
 obtain⟨h1,h2⟩:=hE;have g:=h2.grow;have he:hOf ((hl.set i .dead).map (HO.frz bx i x))=Qqn bx i x (hOf hl):=by
  have hi:i<hl.length:=by
   rcases Nat.lt_or_ge i hl.length with h | h
   ·exact h
   ·unfold hOf at hl';rw[List.getD_eq_getElem?_getD,List.getElem?_eq_none h]at hl';cases hl'
  funext r
  unfold Qqn hOf Qbm;dsimp only;rw[List.getD_eq_getElem?_getD,List.getElem?_map];by_cases hr:r=i
  ·subst hr;simp[hi]
  ·rw[List.getElem?_set_ne (Ne.symm hr)];simp only[hr,if_false];rw[List.getD_eq_getElem?_getD];cases hl[r]? <;> rfl
 rw[he];refine⟨h1,hst.ex.trans h2,fun k=>?_,hst.size,DfM.frz hF (hst.df.grow g)⟩;have:=Qlp hF _ _ (Rp.grow g _ _ (hst.tmp k));have e:Wc (D.frzs bx i x tl) k=D.frz bx i x (Wc tl k):=by
  unfold Wc;rw[D.frzs_map,List.getD_eq_getElem?_getD,List.getElem?_map,List.getD_eq_getElem?_getD];cases tl[k]? <;> rfl
 rw[e];exact this
theorem Xe{c:Code}(i:Nat){ty:TypeId}{ds:List D}(hi:hOf hl i= .cells ty ds)(hone:ds.all D.one=true)(hx:(Qat T ty ds).isAggD=false/\(Qat T ty ds= .ref (.agg ds)\/∃d,ds= [d]/\Qat T ty ds= .ref d))
  (h:wpD P G M c Q (D.frzs .kb i (Qat T ty ds) tl) ((hl.set i .dead).map (HO.frz .kb i (Qat T ty ds))) (Qam .kb i (Qat T ty ds) df)):wpD P G M c Q tl hl df:=fun ρ0 w0 H0 ρ w a hbs hst=>by
 have hlive:(hOf hl i).live=true:=by rw[hi];rfl
 cases hnm:ρ.nm i with
 | none =>
  have hF:FrzOK ρ w .kb i (Qat T ty ds):=⟨hx.1,(fun _ v hv=>by rw[Rp]at hv;obtain⟨b,f,h1, -⟩:=hv;rw[hnm]at h1;cases h1),(fun h=>by cases h),(fun h=>by cases h)⟩
  have:=h ρ0 w0 H0 ρ w a hbs (by
   rw[D.frzs_length]
   exact hst.frz hlive hF (Ex.frz hst.rel (Grow.refl _ _) rfl hst.rel.fresh (fun _ _ _ _ _ _=>rfl) (fun _ _=>rfl) hF))
  rw[D.frzs_length]at this;exact this
 | some bf =>
  obtain⟨b,f⟩:=bf;have hobj:=hst.rel.obj i b f hnm;rw[hi]at hobj;obtain⟨hc,vs,hh,hr⟩:=hobj;have g:Grow ρ w (ρ.stay b) w:=Grow.stay hc;have hF:FrzOK (ρ.stay b) w .kb i (Qat T ty ds):=⟨hx.1,fun _ v hv=>?_,(fun h=>by cases h),fun h=>by cases h⟩
  ·have:=h ρ0 w0 H0 (ρ.stay b) w a hbs (by
    rw[D.frzs_length]
    exact hst.frz hlive hF (Ex.stay hst.rel hnm hlive hc hF))
   rw[D.frzs_length]at this;exact this
  ·rw[Rp]at hv;obtain⟨b',f',h1,rfl⟩:=hv;have h1':ρ.nm i=some (b',f'):=h1;rw[hnm]at h1';cases h1';have hcell:∀(j:Nat) (d:D),ds[j]?=some d ->∃u,Qbh (ρ.stay b) w b (0+j) u/\Rp (ρ.stay b) w d u:=fun j d hj=>by
    obtain⟨u,e1,e2⟩:=hr.get hj;have e3:=Rp.grow g _ _ e2;refine⟨u,⟨fun k hk=>by simp[Rho.stay]at hk,?_,D.one_cell (List.all_eq_true.1 hone d (List.mem_of_getElem? hj)) e3⟩,e3⟩;rw[Nat.zero_add];simp[World.cell?,hh,e1]
   rcases hx.2 with e | ⟨d,rfl,e⟩
   ·rw[e];exact Qbl.2 ⟨b,0,rfl,RpC.of hcell⟩
   ·rw[e];obtain⟨u,e1,e2⟩:=hcell 0 d rfl;refine Qbl.2 ⟨b,0,rfl,?_⟩;cases d
    case agg cs=>simp[D.one]at hone
    all_goals exact⟨u,e1,e2⟩
theorem Qxp{c:Code}(i:Nat){es:List (D×D)}(hi:hOf hl i= .mp es)
  (h:wpD P G M c Q (D.frzs .mp i (.mapc (es.map (·.1)) (es.map (·.2))) tl) ((hl.set i .dead).map (HO.frz .mp i (.mapc (es.map (·.1)) (es.map (·.2))))) (Qam .mp i (.mapc (es.map (·.1)) (es.map (·.2))) df)):wpD P G M c Q tl hl df:=fun ρ0 w0 H0 ρ w a hbs hst=>by
 have hlive:(hOf hl i).live=true:=by rw[hi];rfl
 cases hnm:ρ.nm i with
 | none =>
  have hF:FrzOK ρ w .mp i (.mapc (es.map (·.1)) (es.map (·.2))):=⟨rfl,(fun h=>by cases h),(fun _ v hv=>by rw[Rp]at hv;obtain⟨b,f,h1, -⟩:=hv;rw[hnm]at h1;cases h1),fun h=>by cases h⟩
  have:=h ρ0 w0 H0 ρ w a hbs (by
   rw[D.frzs_length]
   exact hst.frz hlive hF (Ex.frz hst.rel (Grow.refl _ _) rfl hst.rel.fresh (fun _ _ _ _ _ _=>rfl) (fun _ _=>rfl) hF))
  rw[D.frzs_length]at this;exact this
 | some bf =>
  obtain⟨b,f⟩:=bf;have hobj:=hst.rel.obj i b f hnm;rw[hi]at hobj;obtain⟨hc,ents,clock,hh,h1,h2, -⟩:=hobj;have g:Grow ρ w (ρ.stay b) w:=Grow.stay hc;have hF:FrzOK (ρ.stay b) w .mp i (.mapc (es.map (·.1)) (es.map (·.2))):=⟨rfl,(fun h=>by cases h),(fun _ v hv=>?_),fun h=>by cases h⟩
  ·have:=h ρ0 w0 H0 (ρ.stay b) w a hbs (by
    rw[D.frzs_length]
    exact hst.frz hlive hF (Ex.stay hst.rel hnm hlive hc hF))
   rw[D.frzs_length]at this;exact this
  ·rw[Rp]at hv;obtain⟨b',f',e1,rfl⟩:=hv;have e1':ρ.nm i=some (b',f'):=e1;rw[hnm]at e1';cases e1';rw[Rp];exact⟨b,ents,clock,rfl,by simp[Rho.stay],hh,RpL.grow g _ _ h1,RpL.grow g _ _ h2⟩
theorem frzO(hR:Rel G ρ w H){i:Nat}{sz:Nat}{els:List D}(hi:H i= .row sz els):∃ρ',FrzOK ρ' w .ow i (.slice els .any)/\Grow ρ w ρ' w/\Rel G ρ' w (Qqn .ow i (.slice els .any) H)/\Ex ρ w H ρ' w (Qqn .ow i (.slice els .any) H):=by
 have hlive:(H i).live=true:=by rw[hi];rfl
 cases hnm:ρ.nm i with
 | none =>
  have hF:FrzOK ρ w .ow i (.slice els .any):=⟨rfl,(fun h=>by cases h),(fun h=>by cases h),fun _ n v hv hn=>by
   rw[Rp]at hv;rcases hv with ⟨rfl,A,rfl⟩ | ⟨b,f,h1, -⟩
   ·have:els= []:=by simpa [D.isLen]using hn
    subst this;rw[Rp];exact⟨A,0,0,rfl,Nat.le_refl _,Nat.zero_le _,Nat.zero_le _,(fun _ h=>by cases h),trivial,fun h=>absurd rfl h⟩
   ·rw[hnm]at h1;cases h1⟩
  obtain⟨r1,r2⟩:=Ex.frz hR (Grow.refl _ _) rfl hR.fresh (fun _ _ _ _ _ _=>rfl) (fun _ _=>rfl) hF;exact⟨ρ,hF,Grow.refl _ _,r1,r2⟩
 | some bf =>
  obtain⟨b,f⟩:=bf;have hobj:=hR.obj i b f hnm;rw[hi]at hobj;obtain⟨hc,a1,a2,a3,a4,a5,ty,vs,us,hh,h1,h2,h5⟩:=hobj;have g:Grow ρ w (ρ.stay b) w:=Grow.stay hc;have hF:FrzOK (ρ.stay b) w .ow i (.slice els .any):=⟨rfl,(fun h=>by cases h),(fun h=>by cases h),fun _ n v hv hn=>?_⟩
  ·obtain⟨r1,r2⟩:=Ex.stay hR hnm hlive hc hF;exact⟨ρ.stay b,hF,g,r1,r2⟩
  ·have hn':els.length=n:=by simpa [D.isLen]using hn
   subst hn';rw[Rp]at hv;rcases hv with ⟨h0,A,rfl⟩ | ⟨b',f',h3,rfl,h4⟩
   ·have:els= []:=List.eq_nil_of_length_eq_zero h0;subst this;rw[Rp];exact⟨A,0,0,rfl,Nat.le_refl _,Nat.zero_le _,Nat.zero_le _,(fun _ h=>by cases h),trivial,fun h=>absurd rfl h⟩
   ·have h3':ρ.nm i=some (b',f'):=h3;rw[hnm]at h3';cases h3';rw[Rp];refine⟨_,f,sz,rfl,a3,a4,a5,a2,trivial,fun _=>⟨b,0,rfl,RpE.of a2 fun k d hk=>?_⟩⟩;have hr:=RpL.elem h1 a2 hk;have hdl:d.cells.length=sz:=by rw[<- a2 d (List.mem_of_getElem? hk)];cases d <;> rfl
    have hcell:∀(j:Nat) (d':D),d.cells[j]?=some d' ->∃u,Qbh (ρ.stay b) w b (0+k * sz+j) u/\Rp (ρ.stay b) w d' u:=fun j d' hj=>by
     obtain⟨u,e1,e2⟩:=hr.get hj;have e3:=Rp.grow g _ _ e2;have hjl:j<sz:=by have:=(List.getElem?_eq_some_iff.1 hj).1;omega
     rw[List.getElem?_take_of_lt hjl,List.getElem?_drop]at e1;refine⟨u,⟨fun k hk=>by simp[Rho.stay]at hk,?_,h5 u (List.mem_of_getElem? e1)⟩,e3⟩;have e1l:=(List.getElem?_eq_some_iff.1 e1).1;simp only[Nat.zero_add,World.cell?,hh,Option.isSome_none,Bool.false_eq_true,if_false];rw[List.getElem?_toArray,List.getElem?_append_left e1l];exact e1
    cases hd:d.isAggD with
    | true =>
     cases d <;> first | (cases hd;done) | skip
     rename_i cs;exact RpC.of hcell
    | false =>
     obtain⟨u,e1,e2⟩:=hcell 0 d (by rw[Qf7 hd];rfl);exact Qtg hd e1 e2
theorem Qei{c:Code}(i:Nat){sz:Nat}{els:List D}(hi:hOf hl i= .row sz els)
  (h:wpD P G M c Q (D.frzs .ow i (.slice els .any) tl) ((hl.set i .dead).map (HO.frz .ow i (.slice els .any))) (Qam .ow i (.slice els .any) df)):wpD P G M c Q tl hl df:=fun ρ0 w0 H0 ρ w a hbs hst=>by
 obtain⟨ρ',hF, -,r1,r2⟩:=frzO hst.rel hi
 have:=h ρ0 w0 H0 ρ' w a hbs (by
  rw[D.frzs_length]
  exact hst.frz (by rw[hi];rfl) hF ⟨r1,r2⟩)
 rw[D.frzs_length]at this;exact this
theorem Spec.frzO{f:FuncId}{args:List D}{hc:List HO}{Post Post':Out ->List HO ->Prop}(h:Spec P G f args hc Post)
  (hp:∀o h',Post o h' ->Post' o h'\/∃i sz els d,o= .ret d/\hOf h' i= .row sz els/\Post' (.ret (D.frz .ow i (.slice els .any) d)) ((h'.set i .dead).map (HO.frz .ow i (.slice els .any)))):Spec P G f args hc Post':=by
 intro ρ w vs hR hvs;obtain⟨h1,h2⟩:=h ρ w vs hR hvs;refine⟨h1,h2.mono ?_⟩;rintro e w' ⟨ρ',o,h',hpo,ho,g1,g2⟩;rcases hp o h' hpo with hq | ⟨i,sz,els,d,rfl,hi,hq⟩
 ·exact⟨ρ',o,h',hq,ho,g1,g2⟩
 ·obtain⟨ρ2,hF,hg,r1,r2⟩:=Go.Proofs.YtgloldepdhgfaaaGreatDoor.frzO g1 hi;obtain⟨u,rfl,hu⟩:=ho;have hH:Qqn .ow i (.slice els .any) (hOf h')=hOf ((h'.set i .dead).map (HO.frz .ow i (.slice els .any))):=by
   funext r
   unfold Qqn hOf Qbm;rw[List.getD_eq_getElem?_getD,List.getElem?_map];by_cases hr:r=i
   ·subst hr;rw[if_pos rfl];have hlt:r<h'.length:=by
     rcases Nat.lt_or_ge r h'.length with h | h
     ·exact h
     ·unfold hOf at hi;rw[List.getD_eq_getElem?_getD,List.getElem?_eq_none h]at hi;cases hi
    rw[List.getElem?_set_self hlt];rfl
   ·rw[if_neg hr,List.getElem?_set_ne (fun e=>hr e.symm)];show HO.frz _ _ _ ((h'[r]?).getD HO.free)=_;cases h'[r]? <;> rfl
  rw[hH]at r1 r2;exact⟨ρ2,_,_,hq,⟨u,rfl,Qlp hF _ _ (Rp.grow hg _ _ hu)⟩,r1,g2.trans r2⟩
end
end Go.Proofs.YtgloldepdhgfaaaGreatDoor
namespace Go.Proofs.YtgloldepdhgfaaaGreatDoor
set_option linter.unusedSimpArgs false
set_option linter.unusedVariables false
open Go.RowKit
def Cp.low(m:Nat):Cp ->Bool
 | .tok i=>decide (i<m)
 | _=>true
mutual
def D.low(m:Nat):D ->Bool
 | .box i _=>decide (i<m)
 | .map i=>decide (i<m)
 | .own i _=>decide (i<m)
 | .ebox i _ _ _=>decide (i<m)
 | .fn _ a b=>D.lows m a && D.lows m b
 | .iface _ d=>D.low m d
 | .tuple ds=>D.lows m ds
 | .agg ds=>D.lows m ds
 | .slice els c=>D.lows m els && c.low m
 | .ref d=>D.low m d
 | .mapc ks vs=>D.lows m ks && D.lows m vs
 | _=>true
def D.lows(m:Nat):List D ->Bool
 | []=>true
 | d::r=>D.low m d && D.lows m r
end
mutual
theorem Wbr{ρ ρ':Rho}{w:World}{m:Nat}(hn:∀i,i<m ->ρ'.nm i=ρ.nm i)(hc:ρ'.c=ρ.c):∀(d:D) (v:Value),d.low m=true ->Rp ρ w d v ->Rp ρ' w d v
 | .junk,v,_,h=>by rw[Rp];trivial
 | .int k n,v,_,h=>by rw[Rp]at h⊢;exact h
 | .bool b,v,_,h=>by rw[Rp]at h⊢;exact h
 | .str s,v,_,h=>by rw[Rp]at h⊢;exact h
 | .nilp,v,_,h=>by rw[Rp]at h⊢;exact h
 | .nilf,v,_,h=>by rw[Rp]at h⊢;exact h
 | .nili,v,_,h=>by rw[Rp]at h⊢;exact h
 | .nilm,v,_,h=>by rw[Rp]at h⊢;exact h
 | .fn f a b,v,p,h=>by
  rw[D.low,Bool.and_eq_true]at p;rw[Rp]at h⊢;obtain⟨us,vs,h1,h2,h3⟩:=h;exact⟨us,vs,h1,Qlq hn hc a us p.1 h2,Qlq hn hc b vs p.2 h3⟩
 | .iface t d,v,p,h=>by
  rw[D.low]at p;rw[Rp]at h⊢;obtain⟨u,h1,h2⟩:=h;exact⟨u,h1,Wbr hn hc d u p h2⟩
 | .tuple ds,v,p,h=>by
  rw[D.low]at p;rw[Rp]at h⊢;obtain⟨u,h1,h2⟩:=h;exact⟨u,h1,Qlq hn hc ds u p h2⟩
 | .agg ds,v,p,h=>by
  rw[D.low]at p;rw[Rp]at h⊢;obtain⟨u,h1,h2⟩:=h;exact⟨u,h1,Qlq hn hc ds u p h2⟩
 | .slice els c,v,p,h=>by
  rw[D.low,Bool.and_eq_true]at p;rw[Rp]at h⊢;obtain⟨A,cap,sz,h1,h2,h3,h4,h5,h6,h7⟩:=h;refine⟨A,cap,sz,h1,h2,h3,h4,h5,?_,fun hne=>let ⟨b,o,h8,h9⟩:=h7 hne;⟨b,o,h8,Wf0 hn hc els b o p.1 h9⟩⟩;cases c with
  | any=>trivial
  | full=>exact h6
  | tok i =>
   have hi:i<m:=by simpa [Cp.low]using p.2
   rcases h6 with h6 | ⟨b,o,f,vs,ty,g1,g2,g3,g4⟩
   ·exact .inl h6
   ·exact .inr ⟨b,o,f,vs,ty,g1,g2,(hn i hi).trans g3,g4⟩
 | .box i off,v,p,h=>by
  have hi:i<m:=by simpa [D.low]using p
  rw[Rp]at h⊢;obtain⟨b,f,h1,h2⟩:=h;exact⟨b,f,(hn i hi).trans h1,h2⟩
 | .map i,v,p,h=>by
  have hi:i<m:=by simpa [D.low]using p
  rw[Rp]at h⊢;obtain⟨b,f,h1,h2⟩:=h;exact⟨b,f,(hn i hi).trans h1,h2⟩
 | .own i n,v,p,h=>by
  have hi:i<m:=by simpa [D.low]using p
  rw[Rp]at h⊢;rcases h with h | ⟨b,f,h1,h2⟩
  ·exact .inl h
  ·exact .inr ⟨b,f,(hn i hi).trans h1,h2⟩
 | .ebox i sz k off,v,p,h=>by
  have hi:i<m:=by simpa [D.low]using p
  rw[Rp]at h⊢;obtain⟨b,f,h1,h2⟩:=h;exact⟨b,f,(hn i hi).trans h1,h2⟩
 | .mapc ks vs,v,p,h=>by
  rw[D.low,Bool.and_eq_true]at p;rw[Rp]at h⊢;obtain⟨b,ents,clock,h1,h2,h3,h4,h5⟩:=h;exact⟨b,ents,clock,h1,by rw[hc];exact h2,h3,Qlq hn hc ks _ p.1 h4,Qlq hn hc vs _ p.2 h5⟩
 | .ref d,v,p,h=>by
  rw[D.low]at p;obtain⟨b,o,h1,h2⟩:=Qbl.1 h;refine Qbl.2 ⟨b,o,h1,?_⟩;cases d
  case agg cs =>
   rw[D.low]at p;exact Wby hn hc cs b o p h2
  all_goals
   obtain⟨u,h3,h4⟩:=h2;exact⟨u,Qci hc h3,Wbr hn hc _ u p h4⟩
theorem Qlq{ρ ρ':Rho}{w:World}{m:Nat}(hn:∀i,i<m ->ρ'.nm i=ρ.nm i)(hc:ρ'.c=ρ.c):∀(ds:List D) (vs:List Value),D.lows m ds=true ->RpL ρ w ds vs ->RpL ρ' w ds vs
 | [],vs,_,h=>by rw[Wu]at h⊢;exact h
 | d::r,vs,p,h=>by
  rw[D.lows,Bool.and_eq_true]at p;rw[Qab]at h;obtain⟨v,us,rfl,h2,h3⟩:=h;exact Qs.2 ⟨Wbr hn hc d v p.1 h2,Qlq hn hc r us p.2 h3⟩
theorem Wby{ρ ρ':Rho}{w:World}{m:Nat}(hn:∀i,i<m ->ρ'.nm i=ρ.nm i)(hc:ρ'.c=ρ.c):∀(ds:List D) (b o:Nat),D.lows m ds=true ->RpC ρ w ds b o ->RpC ρ' w ds b o
 | [],b,o,_,h=>Qlr
 | d::r,b,o,p,h=>by
  rw[D.lows,Bool.and_eq_true]at p;rw[Qa4]at h;obtain⟨⟨v,h1,h2⟩,h3⟩:=h;exact Qa4.2 ⟨⟨v,Qci hc h1,Wbr hn hc d v p.1 h2⟩,Wby hn hc r b (o+1) p.2 h3⟩
theorem Wf0{ρ ρ':Rho}{w:World}{m:Nat}(hn:∀i,i<m ->ρ'.nm i=ρ.nm i)(hc:ρ'.c=ρ.c):∀(ds:List D) (b o:Nat),D.lows m ds=true ->RpE ρ w ds b o ->RpE ρ' w ds b o
 | [],b,o,_,h=>Qgc
 | d::r,b,o,p,h=>by
  rw[D.lows,Bool.and_eq_true]at p;rw[Qa0]at h;refine Qa0.2 ⟨?_,Wf0 hn hc r b _ p.2 h.2⟩;have h2:=h.1;cases d
  case agg cs =>
   have p1:=p.1;rw[D.low]at p1;exact Wby hn hc cs b o p1 h2
  all_goals
   obtain⟨u,h3,h4⟩:=h2;exact⟨u,Qci hc h3,Wbr hn hc _ u p.1 h4⟩
end
mutual
theorem D.low_pure(m:Nat):∀d:D,d.pure=true ->d.low m=true
 | .junk,_=>rfl
 | .int _ _,_=>rfl
 | .bool _,_=>rfl
 | .str _,_=>rfl
 | .nilp,_=>rfl
 | .nilf,_=>rfl
 | .nili,_=>rfl
 | .nilm,_=>rfl
 | .box _ _,h=>by simp[D.pure]at h
 | .map _,h=>by simp[D.pure]at h
 | .own _ _,h=>by simp[D.pure]at h
 | .ebox _ _ _ _,h=>by simp[D.pure]at h
 | .fn f a b,h=>by
  rw[D.pure,Bool.and_eq_true]at h;rw[D.low,D.lows_pure m a h.1,D.lows_pure m b h.2];rfl
 | .iface t d,h=>by rw[D.pure]at h;rw[D.low,D.low_pure m d h]
 | .tuple ds,h=>by rw[D.pure]at h;rw[D.low,D.lows_pure m ds h]
 | .agg ds,h=>by rw[D.pure]at h;rw[D.low,D.lows_pure m ds h]
 | .slice els c,h=>by
  rw[D.pure,Bool.and_eq_true]at h;rw[D.low,D.lows_pure m els h.1];cases c <;> first | rfl | simp[Cp.free]at h
 | .ref d,h=>by rw[D.pure]at h;rw[D.low,D.low_pure m d h]
 | .mapc ks vs,h=>by
  rw[D.pure,Bool.and_eq_true]at h;rw[D.low,D.lows_pure m ks h.1,D.lows_pure m vs h.2];rfl
theorem D.lows_pure(m:Nat):∀ds:List D,D.pures ds=true ->D.lows m ds=true
 | [],_=>rfl
 | d::r,h=>by
  rw[D.pures,Bool.and_eq_true]at h;rw[D.lows,D.low_pure m d h.1,D.lows_pure m r h.2];rfl
end
section
variable {G : Nat -> Option D} {ρ0 ρ : Rho} {w0 w : World} {H0 : Nat -> HO} {nt : Nat} {a : Act} {tl : List D} {hl : List HO}
variable {P : Program} {Q : DQ} {M : Nat}
end
end Go.Proofs.YtgloldepdhgfaaaGreatDoor
namespace Go.Proofs.YtgloldepdhgfaaaGreatDoor
set_option linter.unusedSimpArgs false
set_option linter.unusedVariables false
open Go.RowKit
def Cp.okN(p:Nat ->Bool):Cp ->Bool
 | .tok i=>p i
 | _=>true
def Cp.ren(σ:Nat ->Nat):Cp ->Cp
 | .tok i=> .tok (σ i)
 | c=>c
mutual
def D.okN(p:Nat ->Bool):D ->Bool
 | .box i _=>p i
 | .map i=>p i
 | .own i _=>p i
 | .ebox i _ _ _=>p i
 | .fn _ a b=>D.okNs p a && D.okNs p b
 | .iface _ d=>D.okN p d
 | .tuple ds=>D.okNs p ds
 | .agg ds=>D.okNs p ds
 | .slice els c=>D.okNs p els && c.okN p
 | .ref d=>D.okN p d
 | .mapc ks vs=>D.okNs p ks && D.okNs p vs
 | _=>true
def D.okNs(p:Nat ->Bool):List D ->Bool
 | []=>true
 | d::r=>D.okN p d && D.okNs p r
end
mutual
def D.ren(σ:Nat ->Nat):D ->D
 | .box i o=> .box (σ i) o
 | .map i=> .map (σ i)
 | .own i n=> .own (σ i) n
 | .ebox i sz k off=> .ebox (σ i) sz k off
 | .fn f a b=> .fn f (D.rens σ a) (D.rens σ b)
 | .iface t d=> .iface t (D.ren σ d)
 | .tuple ds=> .tuple (D.rens σ ds)
 | .agg ds=> .agg (D.rens σ ds)
 | .slice els c=> .slice (D.rens σ els) (c.ren σ)
 | .ref d=> .ref (D.ren σ d)
 | .mapc ks vs=> .mapc (D.rens σ ks) (D.rens σ vs)
 | .junk=> .junk
 | .int k n=> .int k n
 | .bool b=> .bool b
 | .str s=> .str s
 | .nilp=> .nilp
 | .nilf=> .nilf
 | .nili=> .nili
 | .nilm=> .nilm
def D.rens(σ:Nat ->Nat):List D ->List D
 | []=> []
 | d::r=>D.ren σ d::D.rens σ r
end
theorem D.rens_map(σ:Nat ->Nat):∀ds:List D,D.rens σ ds=ds.map (D.ren σ)
 | []=>rfl
 | d::r=>by rw[D.rens,D.rens_map σ r];rfl
theorem D.rens_length(σ:Nat ->Nat)(ds:List D):(D.rens σ ds).length=ds.length:=by rw[D.rens_map,List.length_map]
theorem D.ren_size(σ:Nat ->Nat)(d:D):(D.ren σ d).size=d.size:=by
 cases d <;> simp[D.ren,D.size,D.rens_length]
section
variable {ρ ρ' : Rho} {w : World} {p : Nat -> Bool} {σ : Nat -> Nat}
mutual
theorem Qjo(hn:∀i,p i=true ->∀x,ρ.nm i=some x ->ρ'.nm (σ i)=some x)(hc:ρ'.c=ρ.c):∀(d:D) (v:Value),d.okN p=true ->Rp ρ w d v ->Rp ρ' w (d.ren σ) v
 | .junk,v,_,h=>by rw[D.ren,Rp];trivial
 | .int k n,v,_,h=>by rw[D.ren];rw[Rp]at h⊢;exact h
 | .bool b,v,_,h=>by rw[D.ren];rw[Rp]at h⊢;exact h
 | .str s,v,_,h=>by rw[D.ren];rw[Rp]at h⊢;exact h
 | .nilp,v,_,h=>by rw[D.ren];rw[Rp]at h⊢;exact h
 | .nilf,v,_,h=>by rw[D.ren];rw[Rp]at h⊢;exact h
 | .nili,v,_,h=>by rw[D.ren];rw[Rp]at h⊢;exact h
 | .nilm,v,_,h=>by rw[D.ren];rw[Rp]at h⊢;exact h
 | .fn f a b,v,q,h=>by
  rw[D.okN,Bool.and_eq_true]at q;rw[D.ren];rw[Rp]at h⊢;obtain⟨us,vs,h1,h2,h3⟩:=h;exact⟨us,vs,h1,Qb5 hn hc a us q.1 h2,Qb5 hn hc b vs q.2 h3⟩
 | .iface t d,v,q,h=>by
  rw[D.okN]at q;rw[D.ren];rw[Rp]at h⊢;obtain⟨u,h1,h2⟩:=h;exact⟨u,h1,Qjo hn hc d u q h2⟩
 | .tuple ds,v,q,h=>by
  rw[D.okN]at q;rw[D.ren];rw[Rp]at h⊢;obtain⟨u,h1,h2⟩:=h;exact⟨u,h1,Qb5 hn hc ds u q h2⟩
 | .agg ds,v,q,h=>by
  rw[D.okN]at q;rw[D.ren];rw[Rp]at h⊢;obtain⟨u,h1,h2⟩:=h;exact⟨u,h1,Qb5 hn hc ds u q h2⟩
 | .slice els c,v,q,h=>by
  rw[D.okN,Bool.and_eq_true]at q;rw[D.ren];rw[Rp]at h⊢;obtain⟨A,cap,sz,h1,h2,h3,h4,h5,h6,h7⟩:=h;refine⟨A,cap,sz,by rw[D.rens_length];exact h1,by rw[D.rens_length];exact h2,h3,by rw[D.rens_length];exact h4,fun e he=>?_,?_,fun hne=>?_⟩
  ·rw[D.rens_map]at he;obtain⟨e',he',rfl⟩:=List.mem_map.1 he;rw[D.ren_size];exact h5 e' he'
  ·rw[D.rens_length];cases c with
   | any=>trivial
   | full=>exact h6
   | tok i =>
    have hi:p i=true:=by simpa [Cp.okN]using q.2
    rcases h6 with h6 | ⟨b,o,f,vs,ty,g1,g2,g3,g4⟩
    ·exact .inl h6
    ·exact .inr ⟨b,o,f,vs,ty,g1,g2,hn i hi _ g3,g4⟩
  ·have hne':els≠ []:=fun h0=>hne (by subst h0;rfl)
   obtain⟨b,o,h8,h9⟩:=h7 hne';exact⟨b,o,h8,Wbt hn hc els b o q.1 h9⟩
 | .box i off,v,q,h=>by
  have hi:p i=true:=by simpa [D.okN]using q
  rw[D.ren];rw[Rp]at h⊢;obtain⟨b,f,h1,h2⟩:=h;exact⟨b,f,hn i hi _ h1,h2⟩
 | .map i,v,q,h=>by
  have hi:p i=true:=by simpa [D.okN]using q
  rw[D.ren];rw[Rp]at h⊢;obtain⟨b,f,h1,h2⟩:=h;exact⟨b,f,hn i hi _ h1,h2⟩
 | .own i n,v,q,h=>by
  have hi:p i=true:=by simpa [D.okN]using q
  rw[D.ren];rw[Rp]at h⊢;rcases h with h | ⟨b,f,h1,h2⟩
  ·exact .inl h
  ·exact .inr ⟨b,f,hn i hi _ h1,h2⟩
 | .ebox i sz k off,v,q,h=>by
  have hi:p i=true:=by simpa [D.okN]using q
  rw[D.ren];rw[Rp]at h⊢;obtain⟨b,f,h1,h2⟩:=h;exact⟨b,f,hn i hi _ h1,h2⟩
 | .mapc ks vs,v,q,h=>by
  rw[D.okN,Bool.and_eq_true]at q;rw[D.ren];rw[Rp]at h⊢;obtain⟨b,ents,clock,h1,h2,h3,h4,h5⟩:=h;exact⟨b,ents,clock,h1,by rw[hc];exact h2,h3,Qb5 hn hc ks _ q.1 h4,Qb5 hn hc vs _ q.2 h5⟩
 | .ref d,v,q,h=>by
  rw[D.okN]at q;rw[D.ren];obtain⟨b,o,h1,h2⟩:=Qbl.1 h;refine Qbl.2 ⟨b,o,h1,?_⟩;cases d
  case agg cs =>
   rw[D.okN]at q;rw[D.ren];exact Qte hn hc cs b o q h2
  all_goals
   obtain⟨u,h3,h4⟩:=h2;have h5:=Qjo hn hc _ u q h4;exact⟨u,Qci hc h3,h5⟩
theorem Qb5(hn:∀i,p i=true ->∀x,ρ.nm i=some x ->ρ'.nm (σ i)=some x)(hc:ρ'.c=ρ.c):∀(ds:List D) (vs:List Value),D.okNs p ds=true ->RpL ρ w ds vs ->RpL ρ' w (D.rens σ ds) vs
 | [],vs,_,h=>by rw[D.rens];rw[Wu]at h⊢;exact h
 | d::r,vs,q,h=>by
  rw[D.okNs,Bool.and_eq_true]at q;rw[D.rens];rw[Qab]at h;obtain⟨v,us,rfl,h2,h3⟩:=h;exact Qs.2 ⟨Qjo hn hc d v q.1 h2,Qb5 hn hc r us q.2 h3⟩
theorem Qte(hn:∀i,p i=true ->∀x,ρ.nm i=some x ->ρ'.nm (σ i)=some x)(hc:ρ'.c=ρ.c):∀(ds:List D) (b o:Nat),D.okNs p ds=true ->RpC ρ w ds b o ->RpC ρ' w (D.rens σ ds) b o
 | [],b,o,_,h=>Qlr
 | d::r,b,o,q,h=>by
  rw[D.okNs,Bool.and_eq_true]at q;rw[D.rens];rw[Qa4]at h;obtain⟨⟨v,h1,h2⟩,h3⟩:=h;exact Qa4.2 ⟨⟨v,Qci hc h1,Qjo hn hc d v q.1 h2⟩,Qte hn hc r b (o+1) q.2 h3⟩
theorem Wbt(hn:∀i,p i=true ->∀x,ρ.nm i=some x ->ρ'.nm (σ i)=some x)(hc:ρ'.c=ρ.c):∀(ds:List D) (b o:Nat),D.okNs p ds=true ->RpE ρ w ds b o ->RpE ρ' w (D.rens σ ds) b o
 | [],b,o,_,h=>Qgc
 | d::r,b,o,q,h=>by
  rw[D.okNs,Bool.and_eq_true]at q;rw[D.rens];rw[Qa0]at h;refine Qa0.2 ⟨?_,by rw[D.ren_size];exact Wbt hn hc r b _ q.2 h.2⟩;have h2:=h.1;cases d
  case agg cs =>
   have q1:=q.1;rw[D.okN]at q1;rw[D.ren];exact Qte hn hc cs b o q1 h2
  all_goals
   obtain⟨u,h3,h4⟩:=h2;have h5:=Qjo hn hc _ u q.1 h4;exact⟨u,Qci hc h3,h5⟩
end
end
mutual
theorem D.ren_pure(σ:Nat ->Nat):∀d:D,d.pure=true ->D.ren σ d=d
 | .junk,_=>rfl
 | .int _ _,_=>rfl
 | .bool _,_=>rfl
 | .str _,_=>rfl
 | .nilp,_=>rfl
 | .nilf,_=>rfl
 | .nili,_=>rfl
 | .nilm,_=>rfl
 | .box _ _,h=>by simp[D.pure]at h
 | .map _,h=>by simp[D.pure]at h
 | .own _ _,h=>by simp[D.pure]at h
 | .ebox _ _ _ _,h=>by simp[D.pure]at h
 | .fn f a b,h=>by
  rw[D.pure,Bool.and_eq_true]at h;rw[D.ren,D.rens_pure σ a h.1,D.rens_pure σ b h.2]
 | .iface t d,h=>by rw[D.pure]at h;rw[D.ren,D.ren_pure σ d h]
 | .tuple ds,h=>by rw[D.pure]at h;rw[D.ren,D.rens_pure σ ds h]
 | .agg ds,h=>by rw[D.pure]at h;rw[D.ren,D.rens_pure σ ds h]
 | .slice els c,h=>by
  rw[D.pure,Bool.and_eq_true]at h;rw[D.ren,D.rens_pure σ els h.1];cases c <;> first | rfl | simp[Cp.free]at h
 | .ref d,h=>by rw[D.pure]at h;rw[D.ren,D.ren_pure σ d h]
 | .mapc ks vs,h=>by
  rw[D.pure,Bool.and_eq_true]at h;rw[D.ren,D.rens_pure σ ks h.1,D.rens_pure σ vs h.2]
theorem D.rens_pure(σ:Nat ->Nat):∀ds:List D,D.pures ds=true ->D.rens σ ds=ds
 | [],_=>rfl
 | d::r,h=>by
  rw[D.pures,Bool.and_eq_true]at h;rw[D.rens,D.ren_pure σ d h.1,D.rens_pure σ r h.2]
end
mutual
theorem D.okN_pure(p:Nat ->Bool):∀d:D,d.pure=true ->d.okN p=true
 | .junk,_=>rfl
 | .int _ _,_=>rfl
 | .bool _,_=>rfl
 | .str _,_=>rfl
 | .nilp,_=>rfl
 | .nilf,_=>rfl
 | .nili,_=>rfl
 | .nilm,_=>rfl
 | .box _ _,h=>by simp[D.pure]at h
 | .map _,h=>by simp[D.pure]at h
 | .own _ _,h=>by simp[D.pure]at h
 | .ebox _ _ _ _,h=>by simp[D.pure]at h
 | .fn f a b,h=>by
  rw[D.pure,Bool.and_eq_true]at h;rw[D.okN,D.okNs_pure p a h.1,D.okNs_pure p b h.2];rfl
 | .iface t d,h=>by rw[D.pure]at h;rw[D.okN,D.okN_pure p d h]
 | .tuple ds,h=>by rw[D.pure]at h;rw[D.okN,D.okNs_pure p ds h]
 | .agg ds,h=>by rw[D.pure]at h;rw[D.okN,D.okNs_pure p ds h]
 | .slice els c,h=>by
  rw[D.pure,Bool.and_eq_true]at h;rw[D.okN,D.okNs_pure p els h.1];cases c <;> first | rfl | simp[Cp.free]at h
 | .ref d,h=>by rw[D.pure]at h;rw[D.okN,D.okN_pure p d h]
 | .mapc ks vs,h=>by
  rw[D.pure,Bool.and_eq_true]at h;rw[D.okN,D.okNs_pure p ks h.1,D.okNs_pure p vs h.2];rfl
theorem D.okNs_pure(p:Nat ->Bool):∀ds:List D,D.pures ds=true ->D.okNs p ds=true
 | [],_=>rfl
 | d::r,h=>by
  rw[D.pures,Bool.and_eq_true]at h;rw[D.okNs,D.okN_pure p d h.1,D.okNs_pure p r h.2];rfl
end
mutual
theorem Qkn:∀d:D,d.okN (fun _=>true)=true
 | .junk=>rfl
 | .int _ _=>rfl
 | .bool _=>rfl
 | .str _=>rfl
 | .nilp=>rfl
 | .nilf=>rfl
 | .nili=>rfl
 | .nilm=>rfl
 | .box _ _=>rfl
 | .map _=>rfl
 | .own _ _=>rfl
 | .ebox _ _ _ _=>rfl
 | .fn f a b=>by rw[D.okN,Qdh a,Qdh b];rfl
 | .iface t d=>by rw[D.okN,Qkn d]
 | .tuple ds=>by rw[D.okN,Qdh ds]
 | .agg ds=>by rw[D.okN,Qdh ds]
 | .slice els c=>by rw[D.okN,Qdh els];cases c <;> rfl
 | .ref d=>by rw[D.okN,Qkn d]
 | .mapc ks vs=>by rw[D.okN,Qdh ks,Qdh vs];rfl
theorem Qdh:∀ds:List D,D.okNs (fun _=>true) ds=true
 | []=>rfl
 | d::r=>by rw[D.okNs,Qkn d,Qdh r];rfl
end
def HO.ren(σ:Nat ->Nat):HO ->HO
 | .cells ty ds=> .cells ty (D.rens σ ds)
 | .mp es=> .mp (es.map fun e=>(D.ren σ e.1,D.ren σ e.2))
 | .row sz els=> .row sz (els.map (D.ren σ))
 | .tok=> .tok
 | .dead=> .dead
 | .free=> .free
def HO.okN(p:Nat ->Bool):HO ->Bool
 | .cells _ ds=>D.okNs p ds
 | .mp es=>D.okNs p (es.map (·.1)) && D.okNs p (es.map (·.2))
 | .row _ els=>D.okNs p (els.flatMap D.cells)
 | _=>true
theorem HO.ren_live(σ:Nat ->Nat)(h:HO):(h.ren σ).live=h.live:=by cases h <;> rfl
theorem HO.ren_free{σ:Nat ->Nat}{h:HO}(e:h.ren σ= .free):h= .free:=by cases h <;> first | rfl | cases e
theorem Qq0(σ:Nat ->Nat):∀els:List D,(els.map (D.ren σ)).flatMap D.cells=D.rens σ (els.flatMap D.cells)
 | []=>rfl
 | e::r=>by
  rw[List.map_cons,List.flatMap_cons,List.flatMap_cons,Qq0 σ r];rw[D.rens_map,D.rens_map,List.map_append]
  congr 1
  cases e <;> simp[D.ren,D.cells,D.rens_map]
theorem Qey.ren{ρ ρ':Rho}{w:World}{p:Nat ->Bool}{σ:Nat ->Nat}(hn:∀i,p i=true ->∀x,ρ.nm i=some x ->ρ'.nm (σ i)=some x)(hc:ρ'.c=ρ.c){b f:Nat}{ho:HO}(q:ho.okN p=true)(h:Qey ρ w b f ho):Qey ρ' w b f (ho.ren σ):=by
 cases ho with
 | cells ty ds=>obtain⟨h0,vs,h1,h2⟩:=h;exact⟨by rw[hc];exact h0,vs,h1,Qb5 hn hc ds vs q h2⟩
 | mp es =>
  simp only[HO.okN,Bool.and_eq_true]at q;obtain⟨h0,e,c,h1,h2,h3,h4⟩:=h;refine⟨by rw[hc];exact h0,e,c,h1,?_,?_,h4.1,by rw[List.length_map];exact h4.2⟩
  ·have:=Qb5 hn hc _ _ q.1 h2;rw[D.rens_map,List.map_map]at this;rw[List.map_map];exact this
  ·have:=Qb5 hn hc _ _ q.2 h3;rw[D.rens_map,List.map_map]at this;rw[List.map_map];exact this
 | row sz els =>
  obtain⟨h0,a1,a2,a3,a4,a5,ty,vs,us,h1,h2,h3⟩:=h;refine⟨by rw[hc];exact h0,a1,fun e he=>?_,by rw[List.length_map];exact a3,a4,by rw[List.length_map];exact a5,ty,vs,us,h1,?_,h3⟩
  ·obtain⟨e',he',rfl⟩:=List.mem_map.1 he;rw[D.ren_size];exact a2 e' he'
  ·have:=Qb5 hn hc _ _ q h2;rw[Qq0];exact this
 | tok=>exact⟨by rw[hc];exact h.1,h.2⟩
 | dead=>trivial
 | free=>trivial
def Qd4(σl:List Nat)(nx:Nat)(j:Nat):Nat:=if j<σl.length then σl.getD j 0 else nx+(j - σl.length)
def upO(σl:List Nat)(nx:Nat)(hc:List HO):List (Nat×HO):=(List.range hc.length).map fun j=>(Qd4 σl nx j,(hOf hc j).ren (Qd4 σl nx))
theorem Qng{H:Nat ->HO}:∀{up:List (Nat×HO)} {i:Nat},(∀p,p∈up ->p.1≠i) ->Qd3 H up i=H i
 | [],i,_=>rfl
 | (n,x)::r,i,h=>by
  rw[Qd3,Qng fun p hp=>h p (List.mem_cons_of_mem _ hp),Wz];exact fun e=>h (n,x) (List.mem_cons_self ..) e.symm
theorem Qxz{H:Nat ->HO}:∀{up:List (Nat×HO)} {p:Nat×HO},p∈up ->(up.map (·.1)).Nodup ->Qd3 H up p.1=p.2
 | (n,x)::r,p,h,hn=>by
  rw[List.map_cons,List.nodup_cons]at hn;rw[Qd3];rcases List.mem_cons.1 h with rfl | h
  ·rw[Qng (fun q hq e=>hn.1 (List.mem_map.2 ⟨q,hq,e⟩)),Xr]
  ·exact Qxz h hn.2
theorem Wc9{σl:List Nat}{nx:Nat}(hnd:σl.Nodup)(hlt:∀i,i∈σl ->i<nx){j k:Nat}(h:Qd4 σl nx j=Qd4 σl nx k):j=k:=by
 have hg:∀j (hj:j<σl.length),σl.getD j 0=σl[j]:=fun j hj=>by rw[List.getD_eq_getElem?_getD,List.getElem?_eq_getElem hj];rfl
 unfold Qd4 at h;by_cases h1:j<σl.length
 ·rw[if_pos h1,hg j h1]at h;by_cases h2:k<σl.length
  ·rw[if_pos h2,hg k h2]at h;exact(List.getElem_inj hnd).1 h
  ·rw[if_neg h2]at h;have:=hlt _ (List.getElem_mem h1);omega
 ·rw[if_neg h1]at h;by_cases h2:k<σl.length
  ·rw[if_pos h2,hg k h2]at h;have:=hlt _ (List.getElem_mem h2);omega
  ·rw[if_neg h2]at h;omega
section
variable {G : Nat -> Option D} {ρ ρ' : Rho} {w w' : World} {H : Nat -> HO} {σl : List Nat} {nx : Nat} {objs hc : List HO}
def Rho.lent(ρ:Rho)(σl:List Nat):Rho:=⟨ρ.c,fun j=>(σl[j]?).bind ρ.nm⟩
def okA(σl:List Nat)(i:Nat):Bool:=σl.contains i
def Qhm(σl:List Nat)(i:Nat):Nat:=σl.idxOf i
theorem Qog(i:Nat)(hi:okA σl i=true)(x:Nat×Nat)(h:ρ.nm i=some x):(ρ.lent σl).nm (Qhm σl i)=some x:=by
 have hm:i∈σl:=by simpa [okA]using hi
 have hlt:=List.idxOf_lt_length_iff.2 hm;show(σl[σl.idxOf i]?).bind ρ.nm=some x;rw[List.getElem?_eq_getElem hlt,List.getElem_idxOf hlt];exact h
theorem Qof(hG:∀g d,G g=some d ->d.pure=true)(hR:Rel G ρ w H)(hnd:σl.Nodup)(hobj:σl.map (fun i=>(H i).ren (Qhm σl))=objs)(hok:(σl.all fun i=>(H i).okN (okA σl))=true):Rel G (ρ.lent σl) w (hOf objs):=by
 have hlen:objs.length=σl.length:=by rw[<- hobj,List.length_map]
 have hget:∀j (hj:j<σl.length),hOf objs j=(H σl[j]).ren (Qhm σl):=fun j hj=>by
  subst hobj;unfold hOf;rw[List.getD_eq_getElem?_getD,List.getElem?_map,List.getElem?_eq_getElem hj];rfl
 have hnm:∀j x,(ρ.lent σl).nm j=some x ->∃hj:j<σl.length,ρ.nm σl[j]=some x:=fun j x h=>by
  have h':(σl[j]?).bind ρ.nm=some x:=h;rcases Nat.lt_or_ge j σl.length with hj | hj
  ·rw[List.getElem?_eq_getElem hj]at h';exact⟨hj,h'⟩
  ·rw[List.getElem?_eq_none hj]at h';cases h'
 refine⟨fun j hj=>?_,hR.fresh,fun j b f h1=>?_,fun i j b f g h1 h2 h3 h4=>?_,fun g d hd=>Qls (ρ:=ρ) (ρ':=ρ.lent σl) rfl (hG g d hd) (hR.glob g d hd)⟩
 ·cases hq:(ρ.lent σl).nm j with
  | none=>rfl
  | some x =>
   obtain⟨hlt,h2⟩:=hnm j x hq;rw[hget j hlt]at hj;rw[hR.free _ (HO.ren_free hj)]at h2;cases h2
 ·obtain⟨hlt,h2⟩:=hnm j _ h1;rw[hget j hlt];refine Qey.ren (p:=okA σl) Qog rfl ?_ (hR.obj _ _ _ h2);exact List.all_eq_true.1 hok _ (List.getElem_mem hlt)
 ·obtain⟨hl1,g1⟩:=hnm i _ h1;obtain⟨hl2,g2⟩:=hnm j _ h2;rw[hget i hl1,HO.ren_live]at h3;rw[hget j hl2,HO.ren_live]at h4;exact(List.getElem_inj hnd).1 (hR.inj _ _ _ _ _ g1 g2 h3 h4)
def Rho.back(ρ ρ':Rho)(σl:List Nat)(nx n:Nat):Rho :=
 ⟨ρ'.c,fun i=>if σl.contains i then ρ'.nm (σl.idxOf i)else if nx<=i/\i<nx+(n - σl.length)then ρ'.nm (σl.length+(i - nx))else ρ.nm i⟩
theorem Wey(hR':Rel G ρ' w' (hOf hc))(hnd:σl.Nodup)(hlt:∀i,i∈σl ->i<nx)(j:Nat)(x:Nat×Nat)(h:ρ'.nm j=some x):(ρ.back ρ' σl nx hc.length).nm (Qd4 σl nx j)=some x:=by
 have hjl:j<hc.length:=by
  rcases Nat.lt_or_ge j hc.length with hj | hj
  ·exact hj
  ·have:=hR'.free j (by unfold hOf;rw[List.getD_eq_getElem?_getD,List.getElem?_eq_none hj];rfl);rw[this]at h;cases h
 show(if σl.contains (Qd4 σl nx j)then _ else _)=_;unfold Qd4;by_cases h1:j<σl.length
 ·have hg:σl.getD j 0=σl[j]:=by rw[List.getD_eq_getElem?_getD,List.getElem?_eq_getElem h1];rfl
  rw[if_pos h1,hg,if_pos (by simp)];rw[hnd.idxOf_getElem j h1];exact h
 ·have hno:¬ (nx+(j - σl.length))∈σl:=fun hm=>by have:=hlt _ hm;omega
  rw[if_neg h1,if_neg (by simpa using hno),if_pos (by omega)];rw[show σl.length+(nx+(j - σl.length) - nx)=j by omega];exact h
theorem back(hG:∀g d,G g=some d ->d.pure=true)(hR:Rel G ρ w H)(hnd:σl.Nodup)(hlt:∀i,i∈σl ->i<nx)(hobj:σl.map (fun i=>(H i).ren (Qhm σl))=objs)(hfree:∀i,nx<=i ->i<nx+(hc.length - σl.length) ->H i= .free)
  (hk:σl.length<=hc.length) (hR':Rel G ρ' w' (hOf hc)) (hE:Ex (ρ.lent σl) w (hOf objs) ρ' w' (hOf hc)) :
  Rel G (ρ.back ρ' σl nx hc.length) w' (Qd3 H (upO σl nx hc))/\Ex ρ w H (ρ.back ρ' σl nx hc.length) w' (Qd3 H (upO σl nx hc))/\∀d u,Rp ρ' w' d u ->Rp (ρ.back ρ' σl nx hc.length) w' (d.ren (Qd4 σl nx)) u:=by
 generalize hρ:ρ.back ρ' σl nx hc.length=ρb;generalize hH:Qd3 H (upO σl nx hc)=Hb;have hren:∀j x,ρ'.nm j=some x ->ρb.nm (Qd4 σl nx j)=some x:=fun j x h=>by subst hρ;exact Wey hR' hnd hlt j x h
 have hcb:ρb.c=ρ'.c:=by subst hρ;rfl
 have hlen:objs.length=σl.length:=by rw[<- hobj,List.length_map]
 have hget:∀j (hj:j<σl.length),hOf objs j=(H σl[j]).ren (Qhm σl):=fun j hj=>by
  subst hobj;unfold hOf;rw[List.getD_eq_getElem?_getD,List.getElem?_map,List.getElem?_eq_getElem hj];rfl
 have hrj:∀j (hj:j<σl.length),Qd4 σl nx j=σl[j]:=fun j hj=>by
  unfold Qd4;rw[if_pos hj,List.getD_eq_getElem?_getD,List.getElem?_eq_getElem hj];rfl
 -- where a name comes from
 have hsrc:∀i,(∃j,j<hc.length/\i=Qd4 σl nx j/\ρb.nm i=ρ'.nm j/\Hb i=(hOf hc j).ren (Qd4 σl nx))\/(¬ i∈σl/\ρb.nm i=ρ.nm i/\Hb i=H i):=fun i=>by
  have hndu:((upO σl nx hc).map (·.1)).Nodup:=by
   unfold upO;rw[List.map_map];show List.Pairwise (· ≠ ·) _;rw[List.pairwise_map];exact List.Pairwise.imp (fun h e=>h (Wc9 hnd hlt e)) List.nodup_range
  have hin:∀j,j<hc.length ->Hb (Qd4 σl nx j)=(hOf hc j).ren (Qd4 σl nx):=fun j hj=>by
   subst hH;exact Qxz (p:=(Qd4 σl nx j,(hOf hc j).ren (Qd4 σl nx))) (List.mem_map.2 ⟨j,List.mem_range.2 hj,rfl⟩) hndu
  by_cases hm:i∈σl
  ·left;have hidx:=List.idxOf_lt_length_iff.2 hm;refine⟨σl.idxOf i,by omega,?_,?_,?_⟩
   ·rw[hrj _ hidx,List.getElem_idxOf hidx]
   ·subst hρ;show(if σl.contains i then _ else _)=_;rw[if_pos (by simpa using hm)]
   ·have:=hin (σl.idxOf i) (by omega);rw[hrj _ hidx,List.getElem_idxOf hidx]at this;exact this
  ·by_cases hb:nx<=i/\i<nx+(hc.length - σl.length)
   ·left;have he:Qd4 σl nx (σl.length+(i - nx))=i:=by
     unfold Qd4;rw[if_neg (by omega)];omega
    refine⟨σl.length+(i - nx),by omega,he.symm,?_,?_⟩
    ·subst hρ;show(if σl.contains i then _ else _)=_;rw[if_neg (by simpa using hm),if_pos hb]
    ·have:=hin (σl.length+(i - nx)) (by omega);rw[he]at this;exact this
   ·right;refine⟨hm,?_,?_⟩
    ·subst hρ;show(if σl.contains i then _ else _)=_;rw[if_neg (by simpa using hm),if_neg hb]
    ·subst hH;refine Qng fun q hq e=>?_
     obtain⟨j,hj,rfl⟩:=List.mem_map.1 hq;rw[List.mem_range]at hj;dsimp only at e;by_cases hjl:j<σl.length
     ·rw[hrj j hjl]at e;exact hm (e▸List.getElem_mem hjl)
     ·apply hb;unfold Qd4 at e;rw[if_neg hjl]at e;omega
 -- what is live here was,or is the called one's
 have hlentL:∀b,Qmc (ρ.lent σl) (hOf objs) b ->∃i f,i∈σl/\ρ.nm i=some (b,f)/\(H i).live=true:=fun b ⟨j,f,h1,h2⟩=>by
  have h':(σl[j]?).bind ρ.nm=some (b,f):=h1;rcases Nat.lt_or_ge j σl.length with hj | hj
  ·rw[List.getElem?_eq_getElem hj]at h';rw[hget j hj,HO.ren_live]at h2;exact⟨σl[j],f,List.getElem_mem hj,h',h2⟩
  ·rw[List.getElem?_eq_none hj]at h';cases h'
 have hL:∀b,Qmc (ρ.lent σl) (hOf objs) b ->Qmc ρ H b:=fun b h=>by
  obtain⟨i,f, -,h1,h2⟩:=hlentL b h;exact⟨i,f,h1,h2⟩
 have hgrow:Grow ρ w ρb w':=by
  have g:=hE.grow;refine⟨g.os,g.tape,g.output,g.size,fun b hb hcn=>?_,fun b k hb hck=>?_,fun i x hx=>?_⟩
  ·rw[hcb];exact g.whole b hb hcn
  ·rw[hcb];exact g.part b k hb hck
  ·by_cases hm:i∈σl
   ·have hidx:=List.idxOf_lt_length_iff.2 hm;have h1:(ρ.lent σl).nm (σl.idxOf i)=some x:=by
     show(σl[σl.idxOf i]?).bind ρ.nm=some x;rw[List.getElem?_eq_getElem hidx,List.getElem_idxOf hidx];exact hx
    have:=hren _ _ (g.nm _ _ h1);rw[hrj _ hidx,List.getElem_idxOf hidx]at this;exact this
   ·rcases hsrc i with ⟨j,hj,he, -, -⟩ | ⟨-,h1, -⟩
    ·by_cases hjl:j<σl.length
     ·rw[hrj j hjl]at he;exact absurd (he▸List.getElem_mem hjl) hm
     ·unfold Qd4 at he;rw[if_neg hjl]at he;rw[hR.free i (hfree i (by omega) (by omega))]at hx;cases hx
    ·rw[h1];exact hx
 refine⟨⟨fun i hi=>?_,fun b hb=>by rw[hcb];exact hR'.fresh b hb,fun i b f h1=>?_,fun i j b f g h1 h2 h3 h4=>?_,fun g d hd=>Qls (ρ:=ρ') (ρ':=ρb) hcb (hG g d hd) (hR'.glob g d hd)⟩,⟨hgrow,fun b hb hl=>?_,fun b hl hb=>?_⟩,fun d u h=>Qjo (p:=fun _=>true) (fun i _ x hx=>hren i x hx) hcb d u ?_ h⟩
 ·rcases hsrc i with ⟨j,hj,he,h1,h2⟩ | ⟨-,h1,h2⟩
  ·rw[h1];rw[h2]at hi;exact hR'.free j (HO.ren_free hi)
  ·rw[h1];rw[h2]at hi;exact hR.free i hi
 ·rcases hsrc i with ⟨j,hj,he,g1,g2⟩ | ⟨hm,g1,g2⟩
  ·rw[g1]at h1;rw[g2];refine Qey.ren (p:=fun _=>true) (fun i _ x hx=>hren i x hx) hcb ?_ (hR'.obj j b f h1);cases hOf hc j <;> simp[HO.okN,Qkn,Qdh]
  ·rw[g1]at h1;rw[g2];have h3:=hR.obj i b f h1;cases hlv:(H i).live with
   | false =>
    revert hlv h3;generalize H i=ho;intro h3 hlv
    cases ho <;> first | exact trivial | cases hlv
   | true =>
    have hnl:¬ Qmc (ρ.lent σl) (hOf objs) b:=fun hl=>by
     obtain⟨i2,f2,hi2,k1,k2⟩:=hlentL b hl;exact hm (hR.inj _ _ _ _ _ k1 h1 k2 hlv▸hi2)
    obtain⟨e1,e2⟩:=hE.frame b (h3.lt hlv) hnl;exact h3.keep hgrow e1 (by rw[hcb];exact e2)
 ·have hcross:∀{i1 i2 j1:Nat} {f1 f2:Nat},j1<hc.length ->ρ'.nm j1=some (b,f1) ->(hOf hc j1).live=true ->¬ i2∈σl ->ρ.nm i2=some (b,f2) ->(H i2).live=true ->i1=i2:=fun {i1 i2 j1 f1 f2} _ k1 k2 k3 k4 k5=>by
   have hb:b<w.heap.size:=(hR.obj i2 b f2 k4).lt k5;have hl:=hE.live b ⟨j1,f1,k1,k2⟩ hb;obtain⟨i3,f3,hi3,q1,q2⟩:=hlentL b hl;exact absurd (hR.inj _ _ _ _ _ q1 k4 q2 k5▸hi3) k3
  rcases hsrc i with ⟨j1,hj1,he1,g1,g2⟩ | ⟨hm1,g1,g2⟩ <;> rcases hsrc j with ⟨j2,hj2,he2,k1,k2⟩ | ⟨hm2,k1,k2⟩
  ·rw[g1]at h1;rw[g2,HO.ren_live]at h3;rw[k1]at h2;rw[k2,HO.ren_live]at h4;rw[he1,he2,hR'.inj _ _ _ _ _ h1 h2 h3 h4]
  ·rw[g1]at h1;rw[g2,HO.ren_live]at h3;rw[k1]at h2;rw[k2]at h4;exact hcross hj1 h1 h3 hm2 h2 h4
  ·rw[g1]at h1;rw[g2]at h3;rw[k1]at h2;rw[k2,HO.ren_live]at h4;exact(hcross hj2 h2 h4 hm1 h1 h3).symm
  ·rw[g1]at h1;rw[g2]at h3;rw[k1]at h2;rw[k2]at h4;exact hR.inj _ _ _ _ _ h1 h2 h3 h4
 ·have hnl:¬ Qmc (ρ.lent σl) (hOf objs) b:=fun h=>hl (hL b h)
  obtain⟨e1,e2⟩:=hE.frame b hb hnl;exact⟨e1,by rw[hcb];exact e2⟩
 ·obtain⟨i,f,h1,h2⟩:=hl;rcases hsrc i with ⟨j,hj,he,g1,g2⟩ | ⟨hm,g1,g2⟩
  ·rw[g1]at h1;rw[g2,HO.ren_live]at h2;exact hL b (hE.live b ⟨j,f,h1,h2⟩ hb)
  ·rw[g1]at h1;rw[g2]at h2;exact⟨i,f,h1,h2⟩
 ·exact Qkn d
end
end Go.Proofs.YtgloldepdhgfaaaGreatDoor
namespace Go.Proofs.YtgloldepdhgfaaaGreatDoor
set_option linter.unusedSimpArgs false
set_option linter.unusedVariables false
open Go.RowKit
def Out.ren(σ:Nat ->Nat):Out ->Out
 | .ret d=> .ret (d.ren σ)
 | .pan d=> .pan (d.ren σ)
theorem Qmb.map{ρ ρ':Rho}{w:World}{σ:Nat ->Nat}(h:∀d u,Rp ρ w d u ->Rp ρ' w (d.ren σ) u){out:Out}{e:Ending}(ho:Qmb ρ w out e):Qmb ρ' w (out.ren σ) e:=by
 cases out with
 | ret d=>obtain⟨u,h1,h2⟩:=ho;exact⟨u,h1,h d u h2⟩
 | pan d=>obtain⟨u,h1,h2⟩:=ho;exact⟨u,h1,h d u h2⟩
def Qbg(f:Bool)(ds:List D):List D:=if f then D.fgts ds else ds
theorem Qm8{ρ:Rho}{w:World}(f:Bool){ds:List D}{vs:List Value}(h:RpL ρ w ds vs):RpL ρ w (Qbg f ds) vs:=by
 cases f
 ·exact h
 ·exact Qjc _ _ h
def told(f:Bool)(o:Out):Out:=if f then o.fgt else o
theorem Qmb.told{ρ:Rho}{w:World}(f:Bool){o:Out}{e:Ending}(h:Qmb ρ w o e):Qmb ρ w (told f o) e:=by
 cases f
 ·exact h
 ·exact h.fgt
mutual
def D.deep:D ->D
 | .slice els _=> .slice (D.deeps els) .any
 | .agg ds=> .agg (D.deeps ds)
 | .tuple ds=> .tuple (D.deeps ds)
 | .iface t d=> .iface t (D.deep d)
 | .fn f a b=> .fn f (D.deeps a) (D.deeps b)
 | .ref d=> .ref (D.deep d)
 | .mapc ks vs=> .mapc (D.deeps ks) (D.deeps vs)
 | .junk=> .junk
 | .int k n=> .int k n
 | .bool b=> .bool b
 | .str s=> .str s
 | .nilp=> .nilp
 | .nilf=> .nilf
 | .nili=> .nili
 | .nilm=> .nilm
 | .box i o=> .box i o
 | .map i=> .map i
 | .own i n=> .own i n
 | .ebox i sz k o=> .ebox i sz k o
def D.deeps:List D ->List D
 | []=> []
 | d::r=>D.deep d::D.deeps r
end
theorem D.deeps_map:∀ds:List D,D.deeps ds=ds.map D.deep
 | []=>rfl
 | d::r=>by rw[D.deeps,D.deeps_map r];rfl
theorem D.deeps_length(ds:List D):(D.deeps ds).length=ds.length:=by rw[D.deeps_map,List.length_map]
theorem D.deep_size(d:D):d.deep.size=d.size:=by cases d <;> simp[D.deep,D.size,D.deeps_length]
section
variable {ρ : Rho} {w : World}
mutual
theorem Qhl:∀(d:D) (v:Value),Rp ρ w d v ->Rp ρ w d.deep v
 | .junk,v,h=>h
 | .int _ _,v,h=>h
 | .bool _,v,h=>h
 | .str _,v,h=>h
 | .nilp,v,h=>h
 | .nilf,v,h=>h
 | .nili,v,h=>h
 | .nilm,v,h=>h
 | .box _ _,v,h=>h
 | .map _,v,h=>h
 | .own _ _,v,h=>h
 | .ebox _ _ _ _,v,h=>h
 | .fn f a b,v,h=>by
  rw[D.deep];rw[Rp]at h⊢;obtain⟨us,vs,h1,h2,h3⟩:=h;exact⟨us,vs,h1,Qdj a us h2,Qdj b vs h3⟩
 | .iface t d,v,h=>by
  rw[D.deep];rw[Rp]at h⊢;obtain⟨u,h1,h2⟩:=h;exact⟨u,h1,Qhl d u h2⟩
 | .tuple ds,v,h=>by
  rw[D.deep];rw[Rp]at h⊢;obtain⟨u,h1,h2⟩:=h;exact⟨u,h1,Qdj ds u h2⟩
 | .agg ds,v,h=>by
  rw[D.deep];rw[Rp]at h⊢;obtain⟨u,h1,h2⟩:=h;exact⟨u,h1,Qdj ds u h2⟩
 | .mapc ks vs,v,h=>by
  rw[D.deep];rw[Rp]at h⊢;obtain⟨b,ents,clock,h1,h2,h3,h4,h5⟩:=h;exact⟨b,ents,clock,h1,h2,h3,Qdj ks _ h4,Qdj vs _ h5⟩
 | .slice els c,v,h=>by
  rw[D.deep];rw[Rp]at h⊢;obtain⟨A,cap,sz,h1,h2,h3,h4,h5,h6,h7⟩:=h;refine⟨A,cap,sz,by rw[D.deeps_length];exact h1,by rw[D.deeps_length];exact h2,h3,by rw[D.deeps_length];exact h4,fun e he=>?_,trivial,fun hne=>?_⟩
  ·rw[D.deeps_map]at he;obtain⟨e',he',rfl⟩:=List.mem_map.1 he;rw[D.deep_size];exact h5 e' he'
  ·have hne':els≠ []:=fun h0=>hne (by subst h0;rfl)
   obtain⟨b,o,h8,h9⟩:=h7 hne';exact⟨b,o,h8,Qvf els b o h9⟩
 | .ref d,v,h=>by
  rw[D.deep];obtain⟨b,o,h1,h2⟩:=Qbl.1 h;refine Qbl.2 ⟨b,o,h1,?_⟩;cases d
  case agg cs=>rw[D.deep];exact Qoy cs b o h2
  all_goals
   obtain⟨u,h3,h4⟩:=h2;have h5:=Qhl _ u h4;exact⟨u,h3,h5⟩
theorem Qdj:∀(ds:List D) (vs:List Value),RpL ρ w ds vs ->RpL ρ w (D.deeps ds) vs
 | [],vs,h=>by rw[D.deeps];exact h
 | d::r,vs,h=>by
  rw[D.deeps];rw[Qab]at h;obtain⟨v,us,rfl,h2,h3⟩:=h;exact Qs.2 ⟨Qhl d v h2,Qdj r us h3⟩
theorem Qoy:∀(ds:List D) (b o:Nat),RpC ρ w ds b o ->RpC ρ w (D.deeps ds) b o
 | [],b,o,h=>Qlr
 | d::r,b,o,h=>by
  rw[D.deeps];rw[Qa4]at h;obtain⟨⟨v,h1,h2⟩,h3⟩:=h;exact Qa4.2 ⟨⟨v,h1,Qhl d v h2⟩,Qoy r b (o+1) h3⟩
theorem Qvf:∀(ds:List D) (b o:Nat),RpE ρ w ds b o ->RpE ρ w (D.deeps ds) b o
 | [],b,o,h=>Qgc
 | d::r,b,o,h=>by
  rw[D.deeps];rw[Qa0]at h;refine Qa0.2 ⟨?_,by rw[D.deep_size];exact Qvf r b _ h.2⟩;have h2:=h.1;cases d
  case agg cs=>rw[D.deep];exact Qoy cs b o h2
  all_goals
   obtain⟨u,h3,h4⟩:=h2;have h5:=Qhl _ u h4;exact⟨u,h3,h5⟩
end
end
section
variable {P : Program} {G : Nat -> Option D}
theorem Wl.deep{f:FuncId}{args:List D}{hl:List HO}{K:Out ->List HO ->Prop}(h:Wl P G f (D.deeps args) hl K):Wl P G f args hl K:=by
 obtain⟨Φ,h1,h2⟩:=h;exact⟨Φ,fun ρ w vs hR hvs=>h1 ρ w vs hR (Qdj _ _ hvs),h2⟩
theorem Wl.objs(hG:∀g d,G g=some d ->d.pure=true){f:FuncId}{args args':List D}{objs:List HO}{Post:Out ->List HO ->Prop}{hl:List HO}{K:Out ->List HO ->Prop}(σl:List Nat)(fa:Bool)(h:Spec P G f args objs Post)
  (hK:∀out hc,Post out hc ->∃fr:Bool,K ((told fr out).ren (Qd4 σl hl.length)) (Qw hl (upO σl hl.length hc)))
  (hk:∀out hc,Post out hc ->σl.length<=hc.length) (hnd:σl.Nodup) (hlt:(σl.all fun i=>decide (i<hl.length))=true) (hobj:σl.map (fun i=>(hOf hl i).ren (Qhm σl))=objs) (hok:(σl.all fun i=>(hOf hl i).okN (okA σl))=true)
  (ha:D.rens (Qhm σl) (Qbg fa args')=args) (hoka:D.okNs (okA σl) (Qbg fa args')=true):Wl P G f args' hl K:=by
 have hlt':∀i,i∈σl ->i<hl.length:=fun i hi=>by simpa using List.all_eq_true.1 hlt i hi
 refine⟨fun o up=>∃out hc fr,Post out hc/\K ((told fr out).ren (Qd4 σl hl.length)) (Qw hl (upO σl hl.length hc))/\o=(told fr out).ren (Qd4 σl hl.length)/\up=upO σl hl.length hc,?_,?_⟩
 ·intro ρ w vs hR hvs;have hR':=Qof hG hR hnd hobj hok;have hvs':RpL (ρ.lent σl) w args vs:=by
   rw[<- ha];exact Qb5 (p:=okA σl) Qog rfl _ _ hoka (Qm8 fa hvs)
  obtain⟨h1,h2⟩:=h _ w vs hR' hvs';refine⟨h1,h2.mono ?_⟩;rintro e w' ⟨ρ',out,hc,hp,hout,g1,g2⟩;obtain⟨fr,hKK⟩:=hK out hc hp;obtain⟨b1,b2,b3⟩:=back (nx:=hl.length) hG hR hnd hlt' hobj (fun i hi _=>by unfold hOf;rw[List.getD_eq_getElem?_getD,List.getElem?_eq_none hi];rfl) (hk _ _ hp) g1 g2;exact⟨_,_,_,⟨out,hc,fr,hp,hKK,rfl,rfl⟩,b1,b2,(hout.told fr).map b3⟩
 ·rintro o up ⟨out,hc,fr,hp,hKK,rfl,rfl⟩;exact hKK
def rdO(σl:List Nat)(nx:Nat)(hc:List HO):List Nat:=(List.range hc.length).map (Qd4 σl nx)
theorem Xp.objs(hG:∀g d,G g=some d ->d.pure=true){f:FuncId}{args args':List D}{objs:List HO}{Post:Out ->List HO ->Prop}{hl:List HO}{K:Out ->List Nat ->List (Nat×HO) ->Prop}(σl:List Nat)(fa fr:Bool){out:Out}{hc:List HO}(h:Spec P G f args objs Post)
  (hP:∀o h',Post o h' ->told fr o=out/\h'=hc) (hK:K (out.ren (Qd4 σl hl.length)) (rdO σl hl.length hc) (upO σl hl.length hc))
  (hk:σl.length<=hc.length) (hnd:σl.Nodup) (hlt:(σl.all fun i=>decide (i<hl.length))=true) (hobj:σl.map (fun i=>(hOf hl i).ren (Qhm σl))=objs) (hok:(σl.all fun i=>(hOf hl i).okN (okA σl))=true)
  (ha:D.rens (Qhm σl) (Qbg fa args')=args) (hoka:D.okNs (okA σl) (Qbg fa args')=true):Xp P G f args' hl K:=by
 have hlt':∀i,i∈σl ->i<hl.length:=fun i hi=>by simpa using List.all_eq_true.1 hlt i hi
 refine⟨out.ren (Qd4 σl hl.length),rdO σl hl.length hc,upO σl hl.length hc,?_,hK⟩;intro ρ w H vs hR hH hvs
 have hrd:∀i,i∈σl ->H i=hOf hl i:=fun i hi=>hH i (by
  unfold rdO;have hidx:=List.idxOf_lt_length_iff.2 hi;refine List.mem_map.2 ⟨σl.idxOf i,List.mem_range.2 (by omega),?_⟩;unfold Qd4
  rw[if_pos hidx,List.getD_eq_getElem?_getD,List.getElem?_eq_getElem hidx,List.getElem_idxOf hidx];rfl)
 have hobj':σl.map (fun i=>(H i).ren (Qhm σl))=objs:=by
  rw[<- hobj];exact List.map_congr_left fun i hi=>by rw[hrd i hi]
 have hok':(σl.all fun i=>(H i).okN (okA σl))=true:=by
  rw[List.all_eq_true]at hok⊢;exact fun i hi=>by rw[hrd i hi];exact hok i hi
 have hR':=Qof hG hR hnd hobj' hok';have hvs':RpL (ρ.lent σl) w args vs:=by
  rw[<- ha];exact Qb5 (p:=okA σl) Qog rfl _ _ hoka (Qm8 fa hvs)
 obtain⟨h1,h2⟩:=h _ w vs hR' hvs';refine⟨h1,h2.mono ?_⟩;rintro e w' ⟨ρ',o,h',hp,hout,g1,g2⟩;obtain⟨rfl,rfl⟩:=hP _ _ hp
 obtain⟨b1,b2,b3⟩:=back (nx:=hl.length) hG hR hnd hlt' hobj' (fun i hi hi2=>by
  rw[hH i (by
   unfold rdO;refine List.mem_map.2 ⟨σl.length+(i - hl.length),List.mem_range.2 (by omega),?_⟩
   unfold Qd4;rw[if_neg (by omega)];omega)]
  unfold hOf;rw[List.getD_eq_getElem?_getD,List.getElem?_eq_none hi];rfl) hk g1 g2
 exact⟨_,b1,b2,(hout.told fr).map b3⟩
end
def okM(m:Nat)(κ:List Nat)(i:Nat):Bool:=decide (i<m) || κ.contains i
def renM(m:Nat)(κ:List Nat)(i:Nat):Nat:=if i<m then i else m+κ.idxOf i
def D.mov(m:Nat)(κ:List Nat)(d:D):D:=if d.okN (okM m κ)then d.ren (renM m κ)else .junk
def HO.mov(m:Nat)(κ:List Nat)(h:HO):HO:=if h.okN (okM m κ)then h.ren (renM m κ)else .dead
def Qn9(m:Nat)(κ:List Nat)(hl:List HO):List HO:=((List.range m).map (hOf hl)++κ.map (hOf hl)).map (HO.mov m κ)
def Qhd(m:Nat)(κ:List Nat)(tl:List D):List D:=tl.map (D.mov m κ)
def Qzf(m:Nat)(κ:List Nat)(df:Df):Df:=df.map fun p=>(p.1,D.rens (renM m κ) p.2)
def okD(m:Nat)(κ:List Nat)(df:Df):Bool:=df.all fun p=>D.okNs (okM m κ) p.2
def Rho.mov(ρ:Rho)(m:Nat)(κ:List Nat):Rho:=⟨ρ.c,fun j=>if j<m then ρ.nm j else(κ[j - m]?).bind ρ.nm⟩
theorem HO.mov_live{m:Nat}{κ:List Nat}{h:HO}(hl:(h.mov m κ).live=true):h.live=true:=by
 unfold HO.mov at hl;split at hl
 ·rw[HO.ren_live]at hl;exact hl
 ·cases hl
theorem HO.mov_free{m:Nat}{κ:List Nat}{h:HO}(e:h.mov m κ= .free):h= .free:=by
 unfold HO.mov at e;split at e
 ·exact HO.ren_free e
 ·cases e
section
variable {G : Nat -> Option D} {ρ0 ρ : Rho} {w0 w : World} {H0 : Nat -> HO} {nt : Nat} {a : Act} {tl : List D} {hl : List HO} {df : Df} {m : Nat} {κ : List Nat}
theorem Que(i:Nat)(hi:okM m κ i=true)(x:Nat×Nat)(h:ρ.nm i=some x):(ρ.mov m κ).nm (renM m κ i)=some x:=by
 unfold renM;show(if _ then _ else _)=_;by_cases h1:i<m
 ·rw[if_pos h1,if_pos h1];exact h
 ·have hm:i∈κ:=by simpa [okM,h1]using hi
  have hidx:=List.idxOf_lt_length_iff.2 hm;rw[if_neg h1,if_neg (by omega)];rw[show m+κ.idxOf i - m=κ.idxOf i by omega,List.getElem?_eq_getElem hidx,List.getElem_idxOf hidx];exact h
theorem DfM.ren{ρ':Rho}{p:Nat ->Bool}{σ:Nat ->Nat}(hn:∀i,p i=true ->∀x,ρ.nm i=some x ->ρ'.nm (σ i)=some x)(hc:ρ'.c=ρ.c):∀{df:Df} {ds:List Deferred},(df.all fun q=>D.okNs p q.2)=true ->DfM ρ w ds df ->DfM ρ' w ds (df.map fun q=>(q.1,D.rens σ q.2))
 | [],ds,_,h=>h
 | (f,cap)::r,ds,hp,h=>by
  rw[List.all_cons,Bool.and_eq_true]at hp;obtain⟨vs,ds',h1,h2,h3⟩:=h;exact⟨vs,ds',h1,Qb5 hn hc _ _ hp.1 h2,DfM.ren hn hc hp.2 h3⟩
theorem InSt.mov(hG:∀g d,G g=some d ->d.pure=true)(h0:∀i,m<=i ->ρ0.nm i=none)(hnd:κ.Nodup)(hge:∀i,i∈κ ->m<=i)(hdf:okD m κ df=true)(h:InSt G ρ0 w0 H0 nt ρ w a (Wc tl) (hOf hl) df) :
  InSt G ρ0 w0 H0 nt (ρ.mov m κ) w a (Wc (Qhd m κ tl)) (hOf (Qn9 m κ hl)) (Qzf m κ df):=by
 have hR:=h.rel
 -- a name's source
 have hsrc:∀j x,(ρ.mov m κ).nm j=some x ->∃i,ρ.nm i=some x/\hOf (Qn9 m κ hl) j=(hOf hl i).mov m κ/\((j<m/\i=j)\/(m<=j/\∃hj:j - m<κ.length,i=κ[j - m])):=fun j x hx=>by
  have hx':(if j<m then ρ.nm j else(κ[j - m]?).bind ρ.nm)=some x:=hx;by_cases hj:j<m
  ·rw[if_pos hj]at hx';refine⟨j,hx',?_, .inl ⟨hj,rfl⟩⟩;unfold Qn9;show List.getD (α:=HO) _ j HO.free=_;rw[List.getD_eq_getElem?_getD,List.getElem?_map,List.getElem?_append_left (by simpa using hj),List.getElem?_map,List.getElem?_range hj];rfl
  ·rw[if_neg hj]at hx';rcases Nat.lt_or_ge (j - m) κ.length with hk | hk
   ·rw[List.getElem?_eq_getElem hk]at hx';refine⟨κ[j - m],hx',?_, .inr ⟨by omega,hk,rfl⟩⟩;unfold Qn9;show List.getD (α:=HO) _ j HO.free=_;rw[List.getD_eq_getElem?_getD,List.getElem?_map,List.getElem?_append_right (by simp;omega),List.getElem?_map];simp only[List.length_map,List.length_range];rw[List.getElem?_eq_getElem hk];rfl
   ·rw[List.getElem?_eq_none hk]at hx';cases hx'
 have hinj:∀j1 j2 i,((j1<m/\i=j1)\/(m<=j1/\∃hj:j1 - m<κ.length,i=κ[j1 - m])) ->((j2<m/\i=j2)\/(m<=j2/\∃hj:j2 - m<κ.length,i=κ[j2 - m])) ->j1=j2:=fun j1 j2 i h1 h2=>by
  rcases h1 with ⟨h1,rfl⟩ | ⟨h1,h3,rfl⟩
  ·rcases h2 with ⟨h2,h4⟩ | ⟨h2,h5,h4⟩
   ·exact h4
   ·have:=hge _ (List.getElem_mem h5);omega
  ·rcases h2 with ⟨h2,h4⟩ | ⟨h2,h5,h4⟩
   ·have:=hge _ (List.getElem_mem h3);omega
   ·have:=(List.getElem_inj hnd).1 h4;omega
 have hL:∀b,Qmc (ρ.mov m κ) (hOf (Qn9 m κ hl)) b ->Qmc ρ (hOf hl) b:=fun b ⟨j,f,h1,h2⟩=>by
  obtain⟨i,g1,g2, -⟩:=hsrc j _ h1;rw[g2]at h2;exact⟨i,f,g1,HO.mov_live h2⟩
 refine⟨⟨fun j hj=>?_,hR.fresh,fun j b f h1=>?_,fun i j b f g h1 h2 h3 h4=>?_,fun g d hd=>Qls (ρ:=ρ) (ρ':=ρ.mov m κ) rfl (hG g d hd) (hR.glob g d hd)⟩,⟨?_,h.ex.frame,fun b hb hlt=>h.ex.live b (hL b hb) hlt⟩,fun k=>?_,h.size,?_⟩
 ·cases hq:(ρ.mov m κ).nm j with
  | none=>rfl
  | some x =>
   obtain⟨i,g1,g2, -⟩:=hsrc j x hq;rw[g2]at hj;rw[hR.free i (HO.mov_free hj)]at g1;cases g1
 ·obtain⟨i,g1,g2, -⟩:=hsrc j _ h1;rw[g2];unfold HO.mov;split
  ·rename_i hok;exact Qey.ren Que rfl hok (hR.obj i b f g1)
  ·trivial
 ·obtain⟨i1,g1,g2,g3⟩:=hsrc i _ h1;obtain⟨i2,k1,k2,k3⟩:=hsrc j _ h2;rw[g2]at h3;rw[k2]at h4;have:=hR.inj _ _ _ _ _ g1 k1 (HO.mov_live h3) (HO.mov_live h4);subst this;exact hinj _ _ _ g3 k3
 ·have g:=h.ex.grow;refine⟨g.os,g.tape,g.output,g.size,g.whole,g.part,fun i x hx=>?_⟩;have hi:i<m:=by
   rcases Nat.lt_or_ge i m with hi | hi
   ·exact hi
   ·rw[h0 i hi]at hx;cases hx
  show(if i<m then _ else _)=_;rw[if_pos hi];exact g.nm i x hx
 ·have e:Wc (Qhd m κ tl) k=(Wc tl k).mov m κ:=by
   unfold Wc Qhd;rw[List.getD_eq_getElem?_getD,List.getElem?_map,List.getD_eq_getElem?_getD];cases tl[k]? <;> rfl
  rw[e];unfold D.mov;split
  ·rename_i hok;exact Qjo Que rfl _ _ hok (h.tmp k)
  ·rw[Rp];trivial
 ·exact DfM.ren Que rfl hdf h.df
variable {P : Program} {Q : DQ} {M : Nat}
def D.tokd(i:Nat):D ->D
 | .slice els .full=> .slice els (.tok i)
 | d=>d
theorem Qtd{i:Nat}{d:D}{v:Value}(h:Rp ρ w d v):Rp ρ w (d.tokd i) v:=by
 unfold D.tokd;split
 ·rw[Rp]at h⊢;obtain⟨A,cap,sz,h1,h2,h3,h4,h5,h6,h7⟩:=h;exact⟨A,cap,sz,h1,h2,h3,h4,h5, .inl h6,h7⟩
 ·exact h
theorem We6{i j:Nat}{ds:List D}{vs:List Value}(h:RpL ρ w ds vs):RpL ρ w (ds.modify j (D.tokd i)) vs:=by
 refine RpL.of (by rw[List.length_modify];exact h.length) fun k d v hd hv=>?_
 rw[List.getElem?_modify]at hd;cases hk:ds[k]? with
 | none=>rw[hk]at hd;cases hd
 | some x =>
  rw[hk]at hd;obtain⟨u,e1,e2⟩:=h.get hk;rw[hv]at e1;cases e1;simp only[Option.map_eq_map,Option.map_some,Option.some.injEq]at hd;subst hd;split
  ·exact Qtd e2
  ·exact e2
theorem InSt.name(h:InSt G ρ0 w0 H0 nt ρ w a (Wc tl) (hOf hl) df):InSt G ρ0 w0 H0 nt ρ w a (Wc tl) (hOf (hl++ [.tok])) df:=by
 have e:hOf (hl++ [.tok])=Qbm (hOf hl) hl.length .tok:=by
  rw[<- Qom];simp[Wi]
 have hf:hOf hl hl.length= .free:=by unfold hOf;rw[List.getD_eq_getElem?_getD,List.getElem?_eq_none (Nat.le_refl _)];rfl
 obtain⟨g1,g2⟩:=Ex.name h.rel hf;rw[e];exact⟨g1,h.ex.trans g2,h.tmp,h.size,h.df⟩
theorem Qtk{c:Code}(t:Nat)(h:wpD P G M c Q (tl.modify t (D.tokd hl.length)) (hl++ [.tok]) df):wpD P G M c Q tl hl df:=fun ρ0 w0 H0 ρ w a hbs hst=>by
 have h1:=hst.name;have hlen:(tl.modify t (D.tokd hl.length)).length=tl.length:=List.length_modify ..
 have:=h ρ0 w0 H0 ρ w a hbs (by
  rw[hlen];refine⟨h1.rel,h1.ex,fun k=>?_,h1.size,h1.df⟩;have h2:=h1.tmp k;unfold Wc at h2⊢;rw[List.getD_eq_getElem?_getD]at h2⊢;rw[List.getElem?_modify];cases hk:tl[k]? with
  | none=>show Rp ρ w .junk _;rw[Rp];trivial
  | some x =>
   rw[hk]at h2;show Rp ρ w (if t=k then D.tokd hl.length x else x) _;split
   ·exact Qtd h2
   ·exact h2)
 rw[hlen]at this;exact this
theorem Qnb{c:Code}(i j:Nat){ty:TypeId}{ds:List D}(hi:hOf hl i= .cells ty ds)(h:wpD P G M c Q tl (hl.set i (.cells ty (ds.modify j (D.tokd hl.length)))++ [.tok]) df):wpD P G M c Q tl hl df:=fun ρ0 w0 H0 ρ w a hbs hst=>by
 have hlt:i<hl.length:=by
  rcases Nat.lt_or_ge i hl.length with h | h
  ·exact h
  ·unfold hOf at hi;rw[List.getD_eq_getElem?_getD,List.getElem?_eq_none h]at hi;cases hi
 have h1:=hst.name;refine h ρ0 w0 H0 ρ w a hbs ?_;have hH:∀k,hOf (hl.set i (.cells ty (ds.modify j (D.tokd hl.length)))++ [.tok]) k=if k=i then .cells ty (ds.modify j (D.tokd hl.length))else hOf (hl++ [.tok]) k:=fun k=>by
  unfold hOf;rw[List.getD_eq_getElem?_getD,List.getD_eq_getElem?_getD];by_cases hk:k=i
  ·subst hk;rw[if_pos rfl,List.getElem?_append_left (by rw[List.length_set];exact hlt),List.getElem?_set_self hlt];rfl
  ·rw[if_neg hk,<- List.set_append_left _ _ hlt,List.getElem?_set_ne (fun e=>hk e.symm)]
 have hi':hOf (hl++ [.tok]) i= .cells ty ds:=by
  rw[<- hi];unfold hOf;rw[List.getD_eq_getElem?_getD,List.getD_eq_getElem?_getD,List.getElem?_append_left hlt]
 have hlv:∀k,(hOf (hl.set i (.cells ty (ds.modify j (D.tokd hl.length)))++ [.tok]) k).live=(hOf (hl++ [.tok]) k).live:=fun k=>by
  rw[hH k];split
  ·rename_i hk;subst hk;rw[hi'];rfl
  ·rfl
 have hL:∀b,Qmc ρ (hOf (hl.set i (.cells ty (ds.modify j (D.tokd hl.length)))++ [.tok])) b ->Qmc ρ (hOf (hl++ [.tok])) b:=fun b ⟨k,f,q1,q2⟩=>⟨k,f,q1,by rw[<- hlv k];exact q2⟩
 have hR:=h1.rel;refine⟨⟨fun k hk=>hR.free k ?_,hR.fresh,fun k b f hk=>?_,fun k l b f g e1 e2 e3 e4=>hR.inj k l b f g e1 e2 (by rw[<- hlv k];exact e3) (by rw[<- hlv l];exact e4),hR.glob⟩,⟨h1.ex.grow,h1.ex.frame,fun b hb hlt=>h1.ex.live b (hL b hb) hlt⟩,h1.tmp,h1.size,h1.df⟩
 ·rw[hH k]at hk;split at hk
  ·cases hk
  ·exact hk
 ·rw[hH k];have h2:=hR.obj k b f hk;split
  ·rename_i hki;subst hki;rw[hi']at h2;obtain⟨c0,vs,q1,q2⟩:=h2;exact⟨c0,vs,q1,We6 q2⟩
  ·exact h2
end
section
variable {G : Nat -> Option D} {ρ0 ρ : Rho} {w0 w : World} {H0 : Nat -> HO} {nt : Nat} {a : Act} {tl : List D} {hl : List HO} {df : Df} {P : Program} {Q : DQ} {M : Nat}
end
end Go.Proofs.YtgloldepdhgfaaaGreatDoor
namespace Go.Proofs.YtgloldepdhgfaaaGreatDoor
set_option linter.unusedSimpArgs false
set_option linter.unusedVariables false
open Go.RowKit
section
variable {G : Nat -> Option D} {ρ0 ρ : Rho} {w0 w : World} {H0 : Nat -> HO} {nt : Nat} {a : Act} {tl : List D} {hl : List HO} {df : Df} {P : Program} {Q : DQ} {M : Nat}
def D.ownd(i:Nat):D ->D
 | .slice [] .full=> .own i 0
 | d=>d
theorem Wbq{i:Nat}{d:D}{v:Value}(h:Rp ρ w d v):Rp ρ w (d.ownd i) v:=by
 unfold D.ownd;split
 ·rw[Rp]at h;obtain⟨A,cap,sz,h1,h2,h3,h4,h5,h6,h7⟩:=h;have h6':cap=0:=h6;subst h6';rw[show Rp ρ w (.own i 0) v=_ from Rp.eq_def ..];exact .inl ⟨rfl,A,h1⟩
 ·exact h
theorem We7{i j:Nat}{ds:List D}{vs:List Value}(h:RpL ρ w ds vs):RpL ρ w (ds.modify j (D.ownd i)) vs:=by
 refine RpL.of (by rw[List.length_modify];exact h.length) fun k d v hd hv=>?_
 rw[List.getElem?_modify]at hd;cases hk:ds[k]? with
 | none=>rw[hk]at hd;cases hd
 | some x =>
  rw[hk]at hd;obtain⟨u,e1,e2⟩:=h.get hk;rw[hv]at e1;cases e1;simp only[Option.map_eq_map,Option.map_some,Option.some.injEq]at hd;subst hd;split
  ·exact Wbq e2
  ·exact e2
theorem InSt.nameX{x:HO}(hx:x.live=true)(h:InSt G ρ0 w0 H0 nt ρ w a (Wc tl) (hOf hl) df):InSt G ρ0 w0 H0 nt ρ w a (Wc tl) (hOf (hl++ [x])) df:=by
 have e:hOf (hl++ [x])=Qbm (hOf hl) hl.length x:=by
  rw[<- Qom];simp[Wi]
 have hf:hOf hl hl.length= .free:=by unfold hOf;rw[List.getD_eq_getElem?_getD,List.getElem?_eq_none (Nat.le_refl _)];rfl
 obtain⟨g1,g2⟩:=Ex.nameX h.rel hf hx;rw[e];exact⟨g1,h.ex.trans g2,h.tmp,h.size,h.df⟩
theorem Wb7{c:Code}(i j sz:Nat){ty:TypeId}{ds:List D}(hi:hOf hl i= .cells ty ds)(h:wpD P G M c Q tl (hl.set i (.cells ty (ds.modify j (D.ownd hl.length)))++ [.row sz []]) df):wpD P G M c Q tl hl df:=fun ρ0 w0 H0 ρ w a hbs hst=>by
 have hlt:i<hl.length:=by
  rcases Nat.lt_or_ge i hl.length with h | h
  ·exact h
  ·unfold hOf at hi;rw[List.getD_eq_getElem?_getD,List.getElem?_eq_none h]at hi;cases hi
 have h1:=hst.nameX (x:= .row sz []) rfl;refine h ρ0 w0 H0 ρ w a hbs ?_;have hH:∀k,hOf (hl.set i (.cells ty (ds.modify j (D.ownd hl.length)))++ [.row sz []]) k=if k=i then .cells ty (ds.modify j (D.ownd hl.length))else hOf (hl++ [.row sz []]) k:=fun k=>by
  unfold hOf;rw[List.getD_eq_getElem?_getD,List.getD_eq_getElem?_getD];by_cases hk:k=i
  ·subst hk;rw[if_pos rfl,List.getElem?_append_left (by rw[List.length_set];exact hlt),List.getElem?_set_self hlt];rfl
  ·rw[if_neg hk,<- List.set_append_left _ _ hlt,List.getElem?_set_ne (fun e=>hk e.symm)]
 have hi':hOf (hl++ [.row sz []]) i= .cells ty ds:=by
  rw[<- hi];unfold hOf;rw[List.getD_eq_getElem?_getD,List.getD_eq_getElem?_getD,List.getElem?_append_left hlt]
 have hlv:∀k,(hOf (hl.set i (.cells ty (ds.modify j (D.ownd hl.length)))++ [.row sz []]) k).live=(hOf (hl++ [.row sz []]) k).live:=fun k=>by
  rw[hH k];split
  ·rename_i hk;subst hk;rw[hi'];rfl
  ·rfl
 have hL:∀b,Qmc ρ (hOf (hl.set i (.cells ty (ds.modify j (D.ownd hl.length)))++ [.row sz []])) b ->Qmc ρ (hOf (hl++ [.row sz []])) b:=fun b ⟨k,f,q1,q2⟩=>⟨k,f,q1,by rw[<- hlv k];exact q2⟩
 have hR:=h1.rel;refine⟨⟨fun k hk=>hR.free k ?_,hR.fresh,fun k b f hk=>?_,fun k l b f g e1 e2 e3 e4=>hR.inj k l b f g e1 e2 (by rw[<- hlv k];exact e3) (by rw[<- hlv l];exact e4),hR.glob⟩,⟨h1.ex.grow,h1.ex.frame,fun b hb hlt=>h1.ex.live b (hL b hb) hlt⟩,h1.tmp,h1.size,h1.df⟩
 ·rw[hH k]at hk;split at hk
  ·cases hk
  ·exact hk
 ·rw[hH k];have h2:=hR.obj k b f hk;split
  ·rename_i hki;subst hki;rw[hi']at h2;obtain⟨c0,vs,q1,q2⟩:=h2;exact⟨c0,vs,q1,We7 q2⟩
  ·exact h2
end
def We9(ρ:Rho)(w:World):Option D ->FrameMode ->Prop
 | none,u=>u= .returning
 | some d,u=>∃x,u= .panicking (Qej x)/\Rp ρ w d x
section
variable (P : Program) (G : Nat -> Option D)
def Qgw(f:FuncId)(args:List D)(objs:List HO)(rc:Option D)(Post:List HO ->Prop):Prop :=
 ∀(ρ:Rho) (w:World) (vs:List Value) (u:FrameMode),Rel G ρ w (hOf objs) ->RpL ρ w args vs ->We9 ρ w rc u ->(invoke (.fn (.func f) vs.toArray) #[]).run P w= .ok (.enter f vs.toArray) w /\
  CallsD P f vs.toArray u w fun e u' w'=>∃z,e= .returned z/\settle u'= .returning/\∃ρ' hc',Post hc'/\Rel G ρ' w' (hOf hc')/\Ex ρ w (hOf objs) ρ' w' (hOf hc')
def CallRD(f:FuncId)(args:List D)(H:Nat ->HO)(rc:Option D)(Φ:List (Nat×HO) ->Prop):Prop :=
 ∀(ρ:Rho) (w:World) (vs:List Value) (u:FrameMode),Rel G ρ w H ->RpL ρ w args vs ->We9 ρ w rc u ->(invoke (.fn (.func f) vs.toArray) #[]).run P w= .ok (.enter f vs.toArray) w /\
  CallsD P f vs.toArray u w fun e u' w'=>∃z,e= .returned z/\settle u'= .returning/\∃ρ' up,Φ up/\Rel G ρ' w' (Qd3 H up)/\Ex ρ w H ρ' w' (Qd3 H up)
def Qfn(f:FuncId)(args:List D)(hl:List HO)(rc:Option D)(K:List HO ->Prop):Prop:=∃Φ:List (Nat×HO) ->Prop,CallRD P G f args (hOf hl) rc Φ/\∀up,Φ up ->K (Qw hl up)
end
section
variable {P : Program} {G : Nat -> Option D}
theorem Qfn.objs(hG:∀g d,G g=some d ->d.pure=true){f:FuncId}{args args':List D}{objs:List HO}{rc:Option D}{Post:List HO ->Prop}{hl:List HO}{K:List HO ->Prop}(σl:List Nat)(h:Qgw P G f args objs rc Post)
  (hK:∀hc,Post hc ->K (Qw hl (upO σl hl.length hc))) (hk:∀hc,Post hc ->σl.length<=hc.length) (hrc:∀d,rc=some d ->d.pure=true) (hnd:σl.Nodup) (hlt:(σl.all fun i=>decide (i<hl.length))=true)
  (hobj:σl.map (fun i=>(hOf hl i).ren (Qhm σl))=objs) (hok:(σl.all fun i=>(hOf hl i).okN (okA σl))=true) (ha:D.rens (Qhm σl) args'=args) (hoka:D.okNs (okA σl) args'=true):Qfn P G f args' hl rc K:=by
 have hlt':∀i,i∈σl ->i<hl.length:=fun i hi=>by simpa using List.all_eq_true.1 hlt i hi
 refine⟨fun up=>∃hc,Post hc/\up=upO σl hl.length hc,?_,?_⟩
 ·intro ρ w vs u hR hvs hm;have hR':=Qof hG hR hnd hobj hok;have hvs':RpL (ρ.lent σl) w args vs:=by
   rw[<- ha];exact Qb5 (p:=okA σl) Qog rfl _ _ hoka hvs
  have hm':We9 (ρ.lent σl) w rc u:=by
   cases rc with
   | none=>exact hm
   | some d =>
    obtain⟨x,h1,h2⟩:=hm;exact⟨x,h1,Qow (ρ:=ρ) (ρ':=ρ.lent σl) rfl d x (hrc d rfl) h2⟩
  obtain⟨h1,h2⟩:=h _ w vs u hR' hvs' hm';refine⟨h1,h2.mono ?_⟩;rintro e u' w' ⟨z,he,hs,ρ',hc,hp,g1,g2⟩;obtain⟨b1,b2, -⟩:=back (nx:=hl.length) hG hR hnd hlt' hobj (fun i hi _=>by unfold hOf;rw[List.getD_eq_getElem?_getD,List.getElem?_eq_none hi];rfl) (hk _ hp) g1 g2;exact⟨z,he,hs,_,_,⟨hc,hp,rfl⟩,b1,b2⟩
 ·rintro up ⟨hc,hp,rfl⟩;exact hK hc hp
theorem Qjg{ops:Array Oper}{Q:Exit ->Act ->List Frame ->World ->Prop}{cs:List Frame}(hno:∀a w,¬ Q .outgrown a cs w):∀(lo:List Oper) (k:Nat),(∀j,j<lo.length ->ops[k+j]?=lo[j]?) ->∀(a:Act) (w:World),wpList P ops (fun e a w=>Q e a cs w) lo a w ->wpOpsS P ops Q (List.range' k lo.length) a cs w
 | [],k,_,a,w,h=>h
 | o::r,k,hj,a,w,h=>by
  have h0:ops[k]?=some o:=by have:=hj 0 (by simp);simpa using this
  have ih:=Qjg hno r (k+1) (fun j hjl=>by
   have:=hj (j+1) (by simpa using hjl)
   rw[show k+1+j=k+(j+1) by omega,this];rfl)
  rw[List.length_cons,List.range'_succ,wpOpsS];rw[h0];dsimp only;rw[wpList]at h;split
  ·rename_i hw;rw[if_pos hw]at h;rcases h with h | ⟨-,⟨a',w',hq⟩⟩
   ·have h':=Oper.wp_mono (K':=fun a' w'=>wpOpsS P ops Q (List.range' (k+1) r.length) a' cs w') (fun a w h=>ih a w h) h;unfold Oper.wp at h';split
    ·rename_i w' hr;rw[hr]at h';exact h'.elim
    ·exact h'
   ·exact absurd hq (hno a' w')
  ·rename_i hw;rw[if_neg hw]at h;exact ih _ _ h
theorem Qwy{f:FuncId}(hcf:∀(vs:Array Value) (w:World),(callFunc f vs).run P w= .ok (.enter f vs) w)(vs:Array Value)(w:World):(invoke (.fn (.func f) vs) #[]).run P w= .ok (.enter f vs) w:=by
 simp[invoke,hcf]
variable {T : TypeId -> Ty}
theorem Qav(hT:∀t,Zf P t (T t)){f:FuncId}{fn:Func}{id:Nat}{ops:Array Oper}{o0:Oper}{r:List Oper}{rest:Code}{args:List D}{hc:List HO}{rc:Option D}{Post:List HO ->Prop}(hf:P.funcs[f]?=some fn)(hb:fn.body=some (.seq (.region id ops false) rest))
  (hops:ops.toList=o0::r) (hrec:∀(a:Act) (w:World),(execOp a.eval o0).run P w= .ok .recover w) (hgd:o0.guard=none) (hcf:∀(vs:Array Value) (w:World),(callFunc f vs).run P w= .ok (.enter f vs) w) {n:Nat} {rs:List ResultVar} (hn:fn.ntmps=n) (hrs:fn.results.toList=rs)
  (h:wpS P G T ops r (Qr (args++List.replicate (n - args.length) (D.tuple [])) o0.dst (rc.getD .nili)) hc [] (fun tl hl df=>wpD P G hc.length rest (Qk T rs (fun o hl=>(∃d,o= .ret d)/\Post hl)) tl hl df) (fun _ _ _ _=>False)):Qgw P G f args hc rc Post:=by
 intro ρ w vs u hR hvs hm;refine⟨Qwy hcf _ _,?_⟩;have hlen:=hvs.length;subst hrs;refine callsD_of_wpS hf hb fun c₀ cs hu=>?_
 have htl:(vs.toArray++Array.replicate (fn.ntmps - vs.toArray.size) undef)=(vs++List.replicate (n - args.length) undef).toArray:=by
  apply Array.ext';simp[hn,hlen]
 rw[htl];have hrp:RpL ρ w (args++List.replicate (n - args.length) (.tuple [])) (vs++List.replicate (n - args.length) undef):=by
  refine hvs.append ?_;generalize n - args.length=m
  induction m with
  | zero=>exact Wu.2 rfl
  | succ m ih=>rw[List.replicate_succ,List.replicate_succ];exact Qs.2 ⟨by rw[Rp];exact⟨[],rfl,Wu.2 rfl⟩,ih⟩
 have hst0:InSt G ρ w (hOf hc) (args++List.replicate (n - args.length) (D.tuple [])).length ρ w {tmps:=(vs++List.replicate (n - args.length) undef).toArray,defers:= []} (Wc (args++List.replicate (n - args.length) (D.tuple []))) (hOf hc) []:=by
  refine⟨hR,Ex.refl _ _ _,fun k=>?_,?_,rfl⟩
  ·unfold Wc;rw[Array.getD_eq_getD_getElem?,List.getElem?_toArray];cases hk:(args++List.replicate (n - args.length) (D.tuple []))[k]? with
   | none=>rw[List.getD_eq_getElem?_getD,hk];show Rp ρ w .junk _;rw[Rp];trivial
   | some d =>
    obtain⟨u,h1,h2⟩:=hrp.get hk;rw[List.getD_eq_getElem?_getD,hk,h1];exact h2
  ·simpa using hrp.length
 have hbs:∀i,hc.length<=i ->ρ.nm i=none:=fun i hi=>hR.free i (by unfold hOf;rw[List.getD_eq_getElem?_getD,List.getElem?_eq_none hi];rfl)
 have h0:ops[0]?=some o0:=by rw[<- Array.getElem?_toList,hops];rfl
 have hsz:ops.size=r.length+1:=by rw[<- Array.length_toList,hops];rfl
 apply wpS_seq;apply wpS_region;rw[hsz,List.range_eq_range',List.range'_succ,wpOpsS];rw[h0];dsimp only;have hwant:Region.wanted o0 (yielded ops (vs++List.replicate (n - args.length) undef).toArray)=true:=by unfold Region.wanted;rw[hgd]
 rw[if_pos hwant,hrec];dsimp only
 -- behind the recovery
 have key:∀(x:Value) (u':FrameMode),Rp ρ w (rc.getD .nili) x ->settle u'= .returning ->
   wpOpsS P ops (Exit.thenS (rest.wpS P (bodyPostS P fn c₀ cs (fun e u' w'=>∃z,e= .returned z/\settle u'= .returning/\∃ρ' hc',Post hc'/\Rel G ρ' w' (hOf hc')/\Ex ρ w (hOf hc) ρ' w' (hOf hc')))) (bodyPostS P fn c₀ cs (fun e u' w'=>∃z,e= .returned z/\settle u'= .returning/\∃ρ' hc',Post hc'/\Rel G ρ' w' (hOf hc')/\Ex ρ w (hOf hc) ρ' w' (hOf hc'))))
    (List.range' (0+1) r.length) (({tmps:=(vs++List.replicate (n - args.length) undef).toArray,defers:= []}:Act).put o0.dst x) ({c₀ with mode:=u'}::cs) w:=fun x u' hx hs=>by
  have hst1:InSt G ρ w (hOf hc) (Qr (args++List.replicate (n - args.length) (D.tuple [])) o0.dst (rc.getD .nili)).length ρ w (({tmps:=(vs++List.replicate (n - args.length) undef).toArray,defers:= []}:Act).put o0.dst x) (Wc (Qr (args++List.replicate (n - args.length) (D.tuple [])) o0.dst (rc.getD .nili))) (hOf (Qw hc [])) [] :=
   hst0.put (up:= []) o0.dst hx hst0.rel (Ex.refl _ _ _)
  refine Qjg (lo:=r) ?_ (0+1) (fun j hj=>by
   rw[Nat.zero_add,<- Array.getElem?_toList,hops,Nat.add_comm];rfl) _ _ ?_
  ·rintro a w ⟨u',z,he, -⟩;cases he
  ·refine Qcy hT r _ _ _ _ _ h ?_ (fun d u tl' hl' df' ρ w a hF=>hF.elim) ρ w _ hst1;intro tl' hl' df' ρ1 w1 a1 k1 k2 k3;refine wpS_of_wp ?_;have k4:=k1 ρ w (hOf hc) ρ1 w1 a1 hbs (by rw[k2];exact k3);refine wp_mono k4 ?_;rintro e a2 w2 ⟨x2,tl2,hl2,df2,ρ2,⟨hdf,hq⟩,hx2,htl2,hst2⟩;subst hdf;have hd:a2.defers= []:=hst2.df;have fin:(match Qfk T hl2 tl2 fn.results.toList with | some d=>(∃d_1,Out.ret d= .ret d_1)/\Post hl2 | none=>False) ->∃v,(results fn a2.tmps).run P w2= .ok v w2/\Post hl2:=fun hq=>by
    cases ht:Qfk T hl2 tl2 fn.results.toList with
    | none=>rw[ht]at hq;exact hq.elim
    | some d =>
     rw[ht]at hq;obtain⟨v,q1,q2⟩:=Qgf (P:=P) hT hst2 ht;exact⟨v,q1,hq.2⟩
   cases x2 with
   | nrm =>
    cases hx2;obtain⟨v,q1,q2⟩:=fin hq;exact⟨hd,u',rfl,v,q1,v,rfl,hs,ρ2,hl2,q2,hst2.rel,hst2.ex⟩
   | ret =>
    cases hx2;obtain⟨v,q1,q2⟩:=fin hq;exact⟨hd,u',rfl,v,q1,v,rfl,hs,ρ2,hl2,q2,hst2.rel,hst2.ex⟩
   | ext i=>exact hq.elim
   | pan d=>obtain⟨⟨d',h'⟩, -⟩:=hq;cases h'
 cases rc with
 | none =>
  have hm':u= .returning:=hm;subst hm';have hr:recoverD (c₀::cs)=none:=by simp[recoverD,hu]
  rw[hr];dsimp only;have:=key .nilIface .returning (by show Rp ρ w .nili _;rw[Rp]) rfl;have e:({c₀ with mode:= .returning}:Frame)=c₀:=by cases c₀;cases hu;rfl
  rw[e]at this;exact this
 | some d =>
  obtain⟨x,rfl,hx⟩:=hm;have hr:recoverD (c₀::cs)=some (x,{c₀ with mode:= .panicking [{v:=x,recovered:=true}]}::cs):=by simp[recoverD,hu,Qej]
  rw[hr];dsimp only;exact key x (.panicking [{v:=x,recovered:=true}]) hx (by simp[settle])
def Qez(T:TypeId ->Ty)(rs:List ResultVar)(Post:Out ->List HO ->Prop)(tl:List D)(hl:List HO):Prop:=match Qfk T hl tl rs with
 | some d=>Post (.ret d) hl
 | none=>False
theorem Qez.intro{T:TypeId ->Ty}{rs:List ResultVar}{Post:Out ->List HO ->Prop}{tl:List D}{hl:List HO}{d:D}(h:Qfk T hl tl rs=some d)(hp:Post (.ret d) hl):Qez T rs Post tl hl:=by unfold Qez;rw[h];exact hp
def EndQD(P:Program)(G:Nat ->Option D)(T:TypeId ->Ty)(rs:List ResultVar)(Post:Out ->List HO ->Prop):DQ:=fun x tl hl df=>match df with
 | []=>match x with
  | .nrm | .ret=>Qez T rs Post tl hl
  | .pan d=>Post (.pan d) hl
  | .ext _=>False
 | [(f,cap)]=>match x with
  | .nrm | .ret=>Qfn P G f cap hl none (Qez T rs Post tl)
  | .pan d=>Qfn P G f cap hl (some d) (Qez T rs Post tl)
  | .ext _=>False
 | _=>False
theorem Qxq(hT:∀t,Zf P t (T t)){f:FuncId}{fn:Func}{c:Code}{args:List D}{hc:List HO}{Post:Out ->List HO ->Prop}(hf:P.funcs[f]?=some fn)(hb:fn.body=some c)(hcf:∀(vs:Array Value) (w:World),(callFunc f vs).run P w= .ok (.enter f vs) w){n:Nat}{rs:List ResultVar}(hn:fn.ntmps=n)(hrs:fn.results.toList=rs)
  (h:wpD P G hc.length c (EndQD P G T rs Post) (args++List.replicate (n - args.length) (.tuple [])) hc []):Spec P G f args hc Post:=by
 intro ρ w vs hR hvs;refine⟨hcf _ _,?_⟩;have hlen:=hvs.length;refine calls_of_wp_defers hf hb ?_;subst hrs;have htl:(vs.toArray++Array.replicate (fn.ntmps - vs.toArray.size) undef)=(vs++List.replicate (n - args.length) undef).toArray:=by
  apply Array.ext';simp[hn,hlen]
 rw[htl];have hrp:RpL ρ w (args++List.replicate (n - args.length) (.tuple [])) (vs++List.replicate (n - args.length) undef):=by
  refine hvs.append ?_;generalize n - args.length=m
  induction m with
  | zero=>exact Wu.2 rfl
  | succ m ih=>rw[List.replicate_succ,List.replicate_succ];exact Qs.2 ⟨by rw[Rp];exact⟨[],rfl,Wu.2 rfl⟩,ih⟩
 have hbs:∀i,hc.length<=i ->ρ.nm i=none:=fun i hi=>hR.free i (by unfold hOf;rw[List.getD_eq_getElem?_getD,List.getElem?_eq_none hi];rfl)
 refine wp_mono (h ρ w (hOf hc) ρ w {tmps:=(vs++List.replicate (n - args.length) undef).toArray,defers:= []} hbs ⟨hR,Ex.refl _ _ _,fun k=>?_,?_,rfl⟩) ?_
 ·unfold Wc;rw[Array.getD_eq_getD_getElem?,List.getElem?_toArray];cases hk:(args++List.replicate (n - args.length) (D.tuple []))[k]? with
  | none=>rw[List.getD_eq_getElem?_getD,hk];show Rp ρ w .junk _;rw[Rp];trivial
  | some d =>
   obtain⟨u,h1,h2⟩:=hrp.get hk;rw[List.getD_eq_getElem?_getD,hk,h1];exact h2
 ·simpa using hrp.length
 ·rintro e a w' ⟨x,tl,hl,df,ρ',hq,hx,htl,hst⟩
  -- what is told
  have fin:∀(hl2:List HO) (ρ2:Rho) (w2:World),InSt G ρ w (hOf hc) (args++List.replicate (n - args.length) (D.tuple [])).length ρ2 w2 a (Wc tl) (hOf hl2) df ->Qez T fn.results.toList Post tl hl2 ->∃v,(results fn a.tmps).run P w2= .ok v w2/\∃ρ' out hc',Post out hc'/\Qmb ρ' w2 out (.returned v)/\Rel G ρ' w2 (hOf hc')/\Ex ρ w (hOf hc) ρ' w2 (hOf hc'):=fun hl2 ρ2 w2 hst2 hq=>by
   unfold Qez at hq;cases ht:Qfk T hl2 tl fn.results.toList with
   | none=>rw[ht]at hq;exact hq.elim
   | some d =>
    rw[ht]at hq;obtain⟨u,h1,h2⟩:=Qgf (P:=P) hT hst2 ht;exact⟨u,h1,ρ2, .ret d,hl2,hq,⟨u,rfl,h2⟩,hst2.rel,hst2.ex⟩
  have dfr:∀{f':FuncId} {cap:List D} {rc:Option D} {m:FrameMode},df= [(f',cap)] ->We9 ρ' w' rc m ->m≠ .run ->Qfn P G f' cap hl rc (Qez T fn.results.toList Post tl) ->Leaves P fn a.tmps (fun e w'=>∃ρ' out hc',Post out hc'/\Qmb ρ' w' out e/\Rel G ρ' w' (hOf hc')/\Ex ρ w (hOf hc) ρ' w' (hOf hc')) a.defers m w':=fun {f' cap rc m} hdf hm hrun hd=>by
   subst hdf;obtain⟨us,ds',hds,hus,hnil⟩:=hst.df;have hnil':ds'= []:=hnil;subst hnil';rw[hds];obtain⟨Φ,hcall,hK⟩:=hd;obtain⟨q1,q2⟩:=hcall ρ' w' us m hst.rel hus hm;refine leaves_cons hrun q1 (q2.mono ?_);rintro e2 u2 w2 ⟨z,rfl,hs,ρ2,up,hphi,g1,g2⟩;dsimp only;rw[hs];have hst2:InSt G ρ w (hOf hc) (args++List.replicate (n - args.length) (D.tuple [])).length ρ2 w2 a (Wc tl) (hOf (Qw hl up)) [(f',cap)]:=by
    rw[Qi5];exact⟨g1,hst.ex.trans g2,fun k=>Rp.grow g2.grow _ _ (hst.tmp k),hst.size,hst.df.grow g2.grow⟩
   obtain⟨v,r1,r2⟩:=fin _ _ _ hst2 (hK up hphi);exact⟨v,r1,r2⟩
  match df,hq with
  | [],hq =>
   have hd:a.defers= []:=hst.df;cases x with
   | nrm =>
    cases hx;obtain⟨v,r1,r2⟩:=fin _ _ _ hst hq;show Leaves P fn a.tmps _ a.defers .returning w';rw[hd];exact⟨v,r1,r2⟩
   | ret =>
    cases hx;obtain⟨v,r1,r2⟩:=fin _ _ _ hst hq;show Leaves P fn a.tmps _ a.defers .returning w';rw[hd];exact⟨v,r1,r2⟩
   | ext i=>exact hq.elim
   | pan d =>
    obtain⟨u,rfl,hu⟩:=hx;show Leaves P fn a.tmps _ a.defers (.panicking (Qej u)) w';rw[hd];exact⟨ρ', .pan d,hl,hq,⟨u,rfl,hu⟩,hst.rel,hst.ex⟩
  | [(f',cap)],hq =>
   cases x with
   | nrm=>cases hx;exact dfr (rc:=none) rfl rfl (by simp) hq
   | ret=>cases hx;exact dfr (rc:=none) rfl rfl (by simp) hq
   | ext i=>exact hq.elim
   | pan d =>
    obtain⟨u,rfl,hu⟩:=hx;exact dfr (rc:=some d) rfl ⟨u,rfl,hu⟩ (by simp) hq
  | _::_::_,hq=>exact hq.elim
end
end Go.Proofs.YtgloldepdhgfaaaGreatDoor
namespace Go.Proofs.YtgloldepdhgfaaaGreatDoor
set_option linter.unusedSimpArgs false
set_option linter.unusedVariables false
open Go.RowKit
def leT:List D ->List D ->Prop
 | [], []=>True
 | a::r,b::s=>(a= .junk\/a=b)/\leT r s
 | _,_=>False
theorem Qzx:∀{l m:List D},leT l m ->l.length=m.length
 | [], [],_=>rfl
 | a::r,b::s,h=>by rw[List.length_cons,List.length_cons,Qzx h.2]
 | [],_::_,h=>h.elim
 | _::_, [],h=>h.elim
theorem Wfh:∀{l m:List D},leT l m ->∀k,Wc l k= .junk\/Wc l k=Wc m k
 | [], [],_,k=> .inr rfl
 | a::r,b::s,h,0=>h.1
 | a::r,b::s,h,k+1=>Wfh h.2 k
 | [],_::_,h,_=>h.elim
 | _::_, [],h,_=>h.elim
theorem Qd5:∀l:List D,leT l l
 | []=>trivial
 | a::r=>⟨.inr rfl,Qd5 r⟩
theorem Qh7:∀{l m n:List D},leT l m ->leT m n ->leT l n
 | [], [], [],_,_=>trivial
 | a::r,b::s,c::t,h,k=>⟨h.1.elim .inl (fun e=>by rw[e];exact k.1),Qh7 h.2 k.2⟩
 | [],_::_,_,h,_=>h.elim
 | _::_, [],_,h,_=>h.elim
 | [], [],_::_,_,k=>k.elim
 | _::_,_::_, [],_,k=>k.elim
theorem Qzw{f:D ->D}(hf:f .junk= .junk):∀{l m:List D},leT l m ->leT (l.map f) (m.map f)
 | [], [],_=>trivial
 | a::r,b::s,h=>⟨h.1.elim (fun e=> .inl (by rw[e];exact hf)) (fun e=> .inr (by rw[e])),Qzw hf h.2⟩
 | [],_::_,h=>h.elim
 | _::_, [],h=>h.elim
theorem Qzu:∀(i:Nat) {l m:List D},leT l m ->leT (l.set i .junk) m
 | i, [], [],h=>by cases i <;> trivial
 | 0,a::r,b::s,h=>⟨.inl rfl,h.2⟩
 | i+1,a::r,b::s,h=>⟨h.1,Qzu i h.2⟩
 | _, [],_::_,h=>h.elim
 | _,_::_, [],h=>h.elim
theorem Qcv:∀(i:Nat) (x:D) {l m:List D},leT l m ->leT (l.set i x) (m.set i x)
 | i,x, [], [],h=>by cases i <;> trivial
 | 0,x,a::r,b::s,h=>⟨.inr rfl,h.2⟩
 | i+1,x,a::r,b::s,h=>⟨h.1,Qcv i x h.2⟩
 | _,_, [],_::_,h=>h.elim
 | _,_,_::_, [],h=>h.elim
theorem Qui:∀(i:Nat) (x:D) {l m:List D},leT l m ->leT (l.set i .junk) (m.set i x)
 | i,x, [], [],h=>by cases i <;> trivial
 | 0,x,a::r,b::s,h=>⟨.inl rfl,h.2⟩
 | i+1,x,a::r,b::s,h=>⟨h.1,Qui i x h.2⟩
 | _,_, [],_::_,h=>h.elim
 | _,_,_::_, [],h=>h.elim
theorem Qzv:∀(W:List Nat) {l m:List D},leT l m ->leT (Qh l W (W.map fun _=> .junk)) m
 | [],l,m,h=>by cases l <;> exact h
 | i::r,l,m,h=>Qzv r (Qzu i h)
theorem Qzy:∀(S:List Nat) (ds:List D) {l m:List D},leT l m ->leT (Qh l S ds) (Qh m S ds)
 | [],ds,l,m,h=>by cases ds <;> exact h
 | i::r, [],l,m,h=>h
 | i::r,d::ds,l,m,h=>Qzy r ds (Qcv i d h)
theorem Qmv:∀(J S:List Nat) (js ds:List D) {l m:List D},js.length=J.length ->leT l m ->leT (Qh l (J++S) (J.map (fun _=> .junk)++ds)) (Qh m (J++S) (js++ds))
 | [],S, [],ds,l,m,_,h=>Qzy S ds h
 | i::r,S,j::js,ds,l,m,hl,h=>Qmv r S js ds (by simpa using hl) (Qui i j h)
 | [],S,_::_,ds,l,m,hl,h=>by simp at hl
 | i::r,S, [],ds,l,m,hl,h=>by simp at hl
theorem Qff(J S:List Nat)(tl:List D):Qb4 (J++S) tl=Qb4 J tl++Qb4 S tl:=List.map_append ..
theorem Qfe(J:List Nat)(tl:List D):(Qb4 J tl).length=J.length:=List.length_map ..
theorem Qf2{J S:List Nat}{tl tl2:List D}(h:tl2=Qh tl (J++S) (Qb4 (J++S) tl2)):leT (Qh tl (J++S) (J.map (fun _=> .junk)++Qb4 S tl2)) tl2:=by
 have:=Qmv J S (Qb4 J tl2) (Qb4 S tl2) (Qfe J tl2) (Qd5 tl);rw[<- Qff,<- h]at this;exact this
section
variable {P : Program} {G : Nat -> Option D} {M : Nat} {Q : DQ} {tl tl' : List D} {hl : List HO} {df : Df}
theorem Qcb{c:Code}(h:leT tl tl')(hw:wpD P G M c Q tl hl df):wpD P G M c Q tl' hl df:=fun ρ0 w0 H0 ρ w a hbs hst=>by
 have hlen:=Qzx h
 have:=hw ρ0 w0 H0 ρ w a hbs ⟨hst.rel,hst.ex,fun k=>by
  rcases Wfh h k with e | e
  ·rw[e,Rp];trivial
  ·rw[e];exact hst.tmp k,hst.size.trans hlen.symm,hst.df⟩
 rw[hlen]at this;exact this
end
end Go.Proofs.YtgloldepdhgfaaaGreatDoor
namespace Go.Proofs.YtgloldepdhgfaaaGreatDoor
set_option linter.unusedSimpArgs false
set_option linter.unusedVariables false
open Go.RowKit
section
variable {G : Nat -> Option D} {tl : List D} {hl : List HO} {P : Program} {Q : DQ} {M : Nat}
def Out.mov(m:Nat)(κ:List Nat):Out ->Out
 | .ret d=> .ret (d.mov m κ)
 | .pan d=> .pan (d.mov m κ)
def PostM(m:Nat)(Post:Out ->List HO ->Prop)(o:Out)(hl:List HO):Prop:=Post o hl\/∃κ:List Nat,κ.Nodup/\(κ.all fun i=>decide (m<=i))=true/\Post (o.mov m κ) (Qn9 m κ hl)
theorem Spec.movd(hG:∀g d,G g=some d ->d.pure=true){f:FuncId}{args:List D}{hc:List HO}{Post:Out ->List HO ->Prop}(h:Spec P G f args hc (PostM hc.length Post)):Spec P G f args hc Post:=by
 intro ρ w vs hR hvs;obtain⟨h1,h2⟩:=h ρ w vs hR hvs;refine⟨h1,h2.mono ?_⟩;rintro e w' ⟨ρ',out,hc',hp | ⟨κ,hnd,hge,hp⟩,ho,g1,g2⟩
 ·exact⟨ρ',out,hc',hp,ho,g1,g2⟩
 ·have hbs:∀i,hc.length<=i ->ρ.nm i=none:=fun i hi=>hR.free i (by unfold hOf;rw[List.getD_eq_getElem?_getD,List.getElem?_eq_none hi];rfl)
  have hst:InSt G ρ w (hOf hc) 0 ρ' w' {tmps:= #[],defers:= []} (Wc []) (hOf hc') []:=⟨g1,g2,fun k=>by show Rp ρ' w' .junk _;rw[Rp];trivial,rfl,rfl⟩;have hst2:=hst.mov (κ:=κ) hG hbs hnd (fun i hi=>by simpa using List.all_eq_true.1 hge i hi) rfl;refine⟨ρ'.mov hc.length κ,out.mov hc.length κ,Qn9 hc.length κ hc',hp,?_,hst2.rel,hst2.ex⟩;have hm:∀d u,Rp ρ' w' d u ->Rp (ρ'.mov hc.length κ) w' (d.mov hc.length κ) u:=fun d u hu=>by
   unfold D.mov;split
   ·rename_i hok;exact Qjo Que rfl _ _ hok hu
   ·rw[Rp];trivial
  cases out with
  | ret d=>obtain⟨u,e1,e2⟩:=ho;exact⟨u,e1,hm d u e2⟩
  | pan d=>obtain⟨u,e1,e2⟩:=ho;exact⟨u,e1,hm d u e2⟩
theorem Qo4{c:Code}(hG:∀g d,G g=some d ->d.pure=true)(I:Nat ->List D ->List HO ->Prop)(n0:Nat)(hI:I n0 tl hl)
  (hr:∀n tl' hl' (A:List D ->List HO ->Df ->Prop),tl'.length=tl.length ->(∀k tl2 hl2,k<n ->I k tl2 hl2 ->A tl2 hl2 []) ->
   (∀(κ:List Nat) k tl2 hl2,κ.Nodup ->(κ.all fun i=>decide (M<=i))=true ->k<n ->I k (Qhd M κ tl2) (Qn9 M κ hl2) ->A tl2 hl2 []) ->I n tl' hl' ->wpD P G M c (Wk A Q) tl' hl' []):wpD P G M (.loop c) Q tl hl []:=fun ρ0 w0 H0 ρ w a hbs hst=>by
 intro b k cs;have key:∀n tl' hl' ρ w a,tl'.length=tl.length ->I n tl' hl' ->InSt G ρ0 w0 H0 tl.length ρ w a (Wc tl') (hOf hl') [] ->
   ∃e a' w',Qti G ρ0 w0 H0 tl.length Q e a' w'/\Arrives P (lone (b.at a (.code c:: .inLoop c::k)) cs w) b k cs e a' w':=by
  intro n
  induction n using Nat.strongRecOn with
  | _ n ih =>
   intro tl' hl' ρ w a hl1 hI hst;obtain⟨e,a₁,w₁,hq,harr⟩:=hr n tl' hl' (fun tl2 hl2 df2=>df2= []/\((∃k,k<n/\I k tl2 hl2)\/∃(κ:List Nat) (k:Nat),κ.Nodup/\(κ.all fun i=>decide (M<=i))=true/\k<n/\I k (Qhd M κ tl2) (Qn9 M κ hl2))) hl1
    (fun k tl2 hl2 h1 h3=>⟨rfl, .inl ⟨k,h1,h3⟩⟩) (fun κ k tl2 hl2 h1 h2 h3 h5=>⟨rfl, .inr ⟨κ,k,h1,h2,h3,h5⟩⟩) hI ρ0 w0 H0 ρ w a hbs (hl1▸hst) b (.inLoop c::k) cs
   rw[hl1]at hq;obtain⟨x,tl2,hl2,df2,ρ2,h1,h2,h3,h4⟩:=hq;cases x with
   | nrm =>
    cases h2;obtain⟨rfl,⟨k',hk',hI2⟩ | ⟨κ,k',hnd,hge,hk',hI2⟩⟩:=h1
    ·obtain⟨e₂,a₂,w₂,hq₂,harr₂⟩:=ih k' hk' _ _ ρ2 w₁ a₁ h3 hI2 h4;exact⟨e₂,a₂,w₂,hq₂, .of_steps (Steps.trans harr (.one step_inLoop)) harr₂⟩
    ·have h5:=h4.mov hG hbs hnd (fun i hi=>by simpa using List.all_eq_true.1 hge i hi) rfl;obtain⟨e₂,a₂,w₂,hq₂,harr₂⟩:=ih k' hk' _ _ (ρ2.mov M κ) w₁ a₁ (by unfold Qhd;rw[List.length_map];exact h3) hI2 h5;exact⟨e₂,a₂,w₂,hq₂, .of_steps (Steps.trans harr (.one step_inLoop)) harr₂⟩
   | ret=>cases h2;exact⟨_,a₁,w₁,⟨.ret,tl2,hl2,df2,ρ2,h1,rfl,h3,h4⟩, .pass (x:= .inLoop c) rfl (fun _ _=> .inl (by simp)) harr⟩
   | ext i=>cases h2;exact⟨_,a₁,w₁,⟨.ext i,tl2,hl2,df2,ρ2,h1,rfl,h3,h4⟩, .pass (x:= .inLoop c) rfl (fun _ _=> .inl (by simp)) harr⟩
   | pan d =>
    obtain⟨u,rfl,hu⟩:=h2;exact⟨_,a₁,w₁,⟨.pan d,tl2,hl2,df2,ρ2,h1,⟨u,rfl,hu⟩,h3,h4⟩, .pass (x:= .inLoop c) rfl (fun _ _=> .inl (by simp)) harr⟩
 obtain⟨e,a',w',hq,harr⟩:=key n0 _ _ ρ w a rfl hI hst;exact⟨e,a',w',hq, .of_steps (.one step_loop) harr⟩
variable {T : TypeId -> Ty}
theorem Qg8{n:Nat}:∀(W:List Nat) (tl ys:List D),¬ n∈W ->(Qh tl W ys).getD n .junk=tl.getD n .junk
 | [],tl,ys,_=>by cases ys <;> rfl
 | i::r,tl, [],_=>rfl
 | i::r,tl,y::ys,h=>by
  rw[Qh,Qg8 r _ _ (fun hm=>h (List.mem_cons_of_mem _ hm)),List.getD_eq_getElem?_getD,List.getElem?_set_ne (fun e=>h (by rw[<- e];exact List.mem_cons_self ..)),<- List.getD_eq_getElem?_getD]
theorem Qme(hT:∀t,Zf P t (T t))(hG:∀g d,G g=some d ->d.pure=true){b0 b1 r1 r2:Nat}{ops1 ops2:Array Oper}{o1 o2 o3:Oper}{body:Code}{ti tk tn td ts:Nat}(W:List Nat)(n:Nat)(I:Nat ->List D ->List HO ->Prop)
  (h1:ops1.toList= [o1]) (e1:o1.op= .binOp .lss ti (.tmp tk) (.tmp tn) ti) (g1:o1.guard=none) (d1:o1.dst=some td) (h2:ops2.toList= [o2,o3]) (e2:o2.op= .binOp .add ti (.tmp tk) (.const (.int .i64 1)) ti) (g2:o2.guard=none) (d2:o2.dst=some ts)
  (e3:o3.op= .move (.tmp ts)) (g3:o3.guard=none) (d3:o3.dst=some tk) (hti:(T ti).k= .int .i64) (hlen:tk<tl.length/\td<tl.length/\ts<tl.length) (hne:td≠tk/\td≠tn/\ts≠tk/\ts≠tn/\tk≠tn) (hn:tl.getD tn .junk= .int .i64 n) (hnl:n<=Ql) (hk0:tl.getD tk .junk= .int .i64 0)
  (hw:tl=(Qh tl W (Qb4 W tl)).set tk (.int .i64 0)) (htn:¬ tn∈W)
  (hI:I 0 (Qb4 W tl) hl)
  (hr:∀k ys hl' (A:List D ->List HO ->Df ->Prop),k<n ->I k ys hl' ->
   (∀tl2 hl2,(tl2.set ts (.int .i64 (k+1))).set tk (.int .i64 (k+1))=(Qh tl W (Qb4 W ((tl2.set ts (.int .i64 (k+1))).set tk (.int .i64 (k+1))))).set tk (.int .i64 (k+1)) ->I (k+1) (Qb4 W ((tl2.set ts (.int .i64 (k+1))).set tk (.int .i64 (k+1)))) hl2 ->tl2.getD tk .junk= .int .i64 k ->A tl2 hl2 []) ->
   (∀(κ:List Nat) tl2 hl2,κ.Nodup ->(κ.all fun i=>decide (M<=i))=true ->Qhd M κ ((tl2.set ts (.int .i64 (k+1))).set tk (.int .i64 (k+1)))=(Qh tl W (Qb4 W (Qhd M κ ((tl2.set ts (.int .i64 (k+1))).set tk (.int .i64 (k+1)))))).set tk (.int .i64 (k+1)) ->
    I (k+1) (Qb4 W (Qhd M κ ((tl2.set ts (.int .i64 (k+1))).set tk (.int .i64 (k+1))))) (Qn9 M κ hl2) ->tl2.getD tk .junk= .int .i64 k ->A tl2 hl2 []) ->
   (∀tl3 tl2 hl2,leT tl3 tl2 ->A tl3 hl2 [] ->A tl2 hl2 []) ->
   wpD P G M body (Qz b1 (Wk A (Qz b0 Q))) (((Qh tl W ys).set tk (.int .i64 k)).set td (.bool true)) hl' [])
  (he:∀ys hl',I n ys hl' ->Q .nrm (((Qh tl W ys).set tk (.int .i64 n)).set td (.bool false)) hl' []) :
  wpD P G M (.block b0 (.loop (.seq (.region r1 ops1 false) (.seq (.cond (.tmp td) .skip (.exit b0)) (.seq (.block b1 body) (.region r2 ops2 false)))))) Q tl hl []:=by
 have hnl':=hnl;unfold Ql at hnl';refine Wd ?_;refine Qo4 hG (fun m tl' hl'=>∃k ys,m+k=n/\tl'=(Qh tl W ys).set tk (.int .i64 k)/\I k ys hl') n ⟨0,_,rfl,hw,hI⟩ ?_;rintro m tl' hl' A hlen' hA hA' ⟨k,ys,hm,rfl,hIk⟩;have hpl:(Qh tl W ys).length=tl.length:=Qa2 _ _ _;have hgn:((Qh tl W ys).set tk (.int .i64 k)).getD tn .junk= .int .i64 n:=by
  rw[List.getD_eq_getElem?_getD,List.getElem?_set_ne hne.2.2.2.2,<- List.getD_eq_getElem?_getD,Qg8 _ _ _ htn,hn]
 have hgk:((Qh tl W ys).set tk (.int .i64 k)).getD tk .junk= .int .i64 k:=by
  rw[List.getD_eq_getElem?_getD,List.getElem?_set_self (by rw[hpl];exact hlen.1)];rfl
 refine Qg1 (Qi hT ?_);rw[h1,Qa,Qx];have hev:Xg T (opD G (Wc ((Qh tl W ys).set tk (.int .i64 k)))) (hOf hl') hl'.length o1=some (.val (.bool (decide ((k:Int)<n))) [] []):=by
  unfold Xg;rw[e1];simp only[opD,Wc,hgn,hgk,Qkp,Bool.false_eq_true,if_false,Qhz,Xy,Za,Xc,hti];rfl
 have hwt:Wn ops1 (Wc ((Qh tl W ys).set tk (.int .i64 k))) o1=some true:=by unfold Wn;rw[g1]
 rw[hwt,hev];simp only[if_true,d1,Qr,Qw,Wk];have hset:((((Qh tl W ys).set tk (.int .i64 k)).set td (.bool (decide ((k:Int)<n))))).getD td .junk= .bool (decide ((k:Int)<n)):=by
  rw[List.getD_eq_getElem?_getD,List.getElem?_set_self (by rw[List.length_set,hpl];exact hlen.2.1)];rfl
 refine Qg1 (Qac (b:=decide ((k:Int)<n)) hset (fun hk=>?_) (fun hk=>?_))
 ·have hkn:k<n:=by simpa using hk
  refine Qg ?_;refine Qg1 (Wd ?_);rw[hk]
  -- behind the body
  have hinc:∀tl2 hl2,tl2.getD tk .junk= .int .i64 k ->A ((tl2.set ts (.int .i64 (k+1))).set tk (.int .i64 (k+1))) hl2 [] ->tl2.length=tl.length ->wpD P G M (.region r2 ops2 false) (Wk A (Qz b0 Q)) tl2 hl2 []:=fun tl2 hl2 hq hAA hl2l=>by
   refine Qi hT ?_;have hev2:Xg T (opD G (Wc tl2)) (hOf hl2) hl2.length o2=some (.val (.int .i64 (k+1)) [] []):=by
    unfold Xg;rw[e2];have hw1:IntKind.i64.wrap ((k:Int)+1)=(k:Int)+1:=Qbu (by omega) (by omega);have hc1:D.ofV (.int .i64 1)= .int .i64 1:=by kernel_rfl
    simp only[opD,Wc,hq,Qkq,Bool.false_eq_true,if_false,Qhz,Xy,Za,Xc,hti,hc1,if_true,hw1];rfl
   rw[h2,Qa];have hwt2:Wn ops2 (Wc tl2) o2=some true:=by unfold Wn;rw[g2]
   rw[hwt2,hev2];simp only[if_true,d2,Qr,Qw];rw[Qa];have hwt3:Wn ops2 (Wc (tl2.set ts (.int .i64 (k+1)))) o3=some true:=by unfold Wn;rw[g3]
   have hev3:Xg T (opD G (Wc (tl2.set ts (.int .i64 (k+1))))) (hOf hl2) hl2.length o3=some (.val (.int .i64 (k+1)) [] []):=by
    unfold Xg;rw[e3];simp only[opD,Wc];rw[List.getD_eq_getElem?_getD,List.getElem?_set_self (by rw[hl2l];exact hlen.2.2)];rfl
   rw[hwt3,hev3];simp only[if_true,d3,Qr,Qw,Qx,Wk];exact hAA
  have hcast:((k+1:Nat):Int)=(k:Int)+1:=by omega
  refine Qtm (hr k ys hl' (fun tl hl df=>wpD P G M (.region r2 ops2 false) (Wk A (Qz b0 Q)) tl hl df) hkn hIk (fun tl2 hl2 heq hI1 hq=>?_) (fun κ tl2 hl2 hnd hge heq hI1 hq=>?_) (fun tl3 tl2 hl2 hle h=>Qcb hle h)) (fun x tl hl df hx=>?_)
  ·have hl2l:tl2.length=tl.length:=by
    have:=congrArg List.length heq;simpa [Qa2]using this
   refine hinc tl2 hl2 hq (hA (m - 1) _ _ (by omega) ⟨k+1,_,by omega,?_,hI1⟩) hl2l;rw[hcast];exact heq
  ·have hl2l:tl2.length=tl.length:=by
    have:=congrArg List.length heq;simpa [Qa2,Qhd]using this
   refine hinc tl2 hl2 hq (hA' κ (m - 1) _ _ hnd hge (by omega) ⟨k+1,_,by omega,?_,hI1⟩) hl2l;rw[hcast];exact heq
  ·cases x with
   | nrm=>exact hx
   | ret=>exact hx
   | pan d=>exact hx
   | ext i =>
    show(if i=b1 then _ else _);have hx':(if i=b1 then wpD P G M (.region r2 ops2 false) (Wk A (Qz b0 Q)) tl hl df else Qz b0 Q (.ext i) tl hl df):=hx;split
    ·rename_i hi;rw[if_pos hi]at hx';exact hx'
    ·rename_i hi;rw[if_neg hi]at hx';exact hx'
 ·have hkn:k=n:=by have:¬ ((k:Int)<n):=(by simpa using hk);omega
  subst hkn;refine Qad ?_;rw[hk];show(if b0=b0 then _ else _);rw[if_pos rfl];exact he ys hl' hIk
theorem Qbv(hT:∀t,Zf P t (T t))(hG:∀g d,G g=some d ->d.pure=true){b0 b1 r1 r2:Nat}{ops1 ops2:Array Oper}{o1 o2 o3:Oper}{body:Code}{ti tk tn td ts:Nat}(W:List Nat)(n:Nat)(I:Nat ->List D ->List HO ->Prop)
  (h1:ops1.toList= [o1]) (e1:o1.op= .binOp .lss ti (.tmp tk) (.tmp tn) ti) (g1:o1.guard=none) (d1:o1.dst=some td) (h2:ops2.toList= [o2,o3]) (e2:o2.op= .binOp .add ti (.tmp tk) (.const (.int .i64 1)) ti) (g2:o2.guard=none) (d2:o2.dst=some ts)
  (e3:o3.op= .move (.tmp ts)) (g3:o3.guard=none) (d3:o3.dst=some tk) (hti:(T ti).k= .int .i64) (hlen:tk<tl.length/\td<tl.length/\ts<tl.length) (hne:td≠tk/\td≠tn/\ts≠tk/\ts≠tn/\tk≠tn) (hn:tl.getD tn .junk= .int .i64 n) (hnl:n<=Ql) (hk0:tl.getD tk .junk= .int .i64 0)
  (hw:tl=(Qh tl W (Qb4 W tl)).set tk (.int .i64 0)) (htn:¬ tn∈W)
  (hI:I 0 (Qb4 W tl) hl)
  (hr:∀k ys hl' (A:List D ->List HO ->Df ->Prop),k<n ->I k ys hl' ->
   (∀tl2 hl2,(tl2.set ts (.int .i64 (k+1))).set tk (.int .i64 (k+1))=(Qh tl W (Qb4 W ((tl2.set ts (.int .i64 (k+1))).set tk (.int .i64 (k+1))))).set tk (.int .i64 (k+1)) ->I (k+1) (Qb4 W ((tl2.set ts (.int .i64 (k+1))).set tk (.int .i64 (k+1)))) hl2 ->tl2.getD tk .junk= .int .i64 k ->A tl2 hl2 []) ->
   (∀(κ:List Nat) tl2 hl2,κ.Nodup ->(κ.all fun i=>decide (M<=i))=true ->Qhd M κ ((tl2.set ts (.int .i64 (k+1))).set tk (.int .i64 (k+1)))=(Qh tl W (Qb4 W (Qhd M κ ((tl2.set ts (.int .i64 (k+1))).set tk (.int .i64 (k+1)))))).set tk (.int .i64 (k+1)) ->
    I (k+1) (Qb4 W (Qhd M κ ((tl2.set ts (.int .i64 (k+1))).set tk (.int .i64 (k+1))))) (Qn9 M κ hl2) ->tl2.getD tk .junk= .int .i64 k ->A tl2 hl2 []) ->
   wpD P G M body (Qz b1 (Wk A (Qz b0 Q))) (((Qh tl W ys).set tk (.int .i64 k)).set td (.bool true)) hl' [])
  (he:∀ys hl',I n ys hl' ->Q .nrm (((Qh tl W ys).set tk (.int .i64 n)).set td (.bool false)) hl' []) :
  wpD P G M (.block b0 (.loop (.seq (.region r1 ops1 false) (.seq (.cond (.tmp td) .skip (.exit b0)) (.seq (.block b1 body) (.region r2 ops2 false)))))) Q tl hl [] :=
 Qme hT hG W n I h1 e1 g1 d1 h2 e2 g2 d2 e3 g3 d3 hti hlen hne hn hnl hk0 hw htn hI (fun k ys hl' A hk hIk hA hA2 _=>hr k ys hl' A hk hIk hA hA2) he
end
end Go.Proofs.YtgloldepdhgfaaaGreatDoor
namespace Go.Proofs.YtgloldepdhgfaaaGreatDoor
set_option linter.unusedSimpArgs false
set_option linter.unusedVariables false
open Go.RowKit
@[simp] theorem pures_nil:D.pures []=true:=rfl
@[simp] theorem fgts_nil:D.fgts []= []:=rfl
@[simp] theorem cells_agg (cs:List D):(D.agg cs).cells=cs:=rfl
@[simp] theorem size_agg (cs:List D):(D.agg cs).size=cs.length:=rfl
@[simp] theorem one_agg (cs:List D):(D.agg cs).one=false:=rfl
@[simp] theorem cells_junk:(D.junk:D).cells= [(D.junk:D)]:=rfl
@[simp] theorem size_junk:(D.junk:D).size=1:=rfl
@[simp] theorem one_junk:(D.junk:D).one=false:=rfl
@[simp] theorem cells_int (x0:IntKind) (x1:Int):(D.int x0 x1:D).cells= [(D.int x0 x1:D)]:=rfl
@[simp] theorem size_int (x0:IntKind) (x1:Int):(D.int x0 x1:D).size=1:=rfl
@[simp] theorem one_int (x0:IntKind) (x1:Int):(D.int x0 x1:D).one=true:=rfl
@[simp] theorem cells_bool (x0:Bool):(D.bool x0:D).cells= [(D.bool x0:D)]:=rfl
@[simp] theorem size_bool (x0:Bool):(D.bool x0:D).size=1:=rfl
@[simp] theorem one_bool (x0:Bool):(D.bool x0:D).one=true:=rfl
@[simp] theorem cells_str {x0}:(D.str x0:D).cells= [(D.str x0:D)]:=rfl
@[simp] theorem size_str {x0}:(D.str x0:D).size=1:=rfl
@[simp] theorem one_str {x0}:(D.str x0:D).one=true:=rfl
@[simp] theorem cells_nilp:(D.nilp:D).cells= [(D.nilp:D)]:=rfl
@[simp] theorem size_nilp:(D.nilp:D).size=1:=rfl
@[simp] theorem one_nilp:(D.nilp:D).one=true:=rfl
@[simp] theorem cells_nilf:(D.nilf:D).cells= [(D.nilf:D)]:=rfl
@[simp] theorem size_nilf:(D.nilf:D).size=1:=rfl
@[simp] theorem one_nilf:(D.nilf:D).one=true:=rfl
@[simp] theorem cells_nili:(D.nili:D).cells= [(D.nili:D)]:=rfl
@[simp] theorem size_nili:(D.nili:D).size=1:=rfl
@[simp] theorem one_nili:(D.nili:D).one=true:=rfl
@[simp] theorem cells_nilm:(D.nilm:D).cells= [(D.nilm:D)]:=rfl
@[simp] theorem size_nilm:(D.nilm:D).size=1:=rfl
@[simp] theorem one_nilm:(D.nilm:D).one=true:=rfl
@[simp] theorem cells_fn (x0) (x1 x2:List D):(D.fn x0 x1 x2:D).cells= [(D.fn x0 x1 x2:D)]:=rfl
@[simp] theorem size_fn (x0) (x1 x2:List D):(D.fn x0 x1 x2:D).size=1:=rfl
@[simp] theorem one_fn (x0) (x1 x2:List D):(D.fn x0 x1 x2:D).one=true:=rfl
@[simp] theorem cells_iface (x0) (x1:D):(D.iface x0 x1:D).cells= [(D.iface x0 x1:D)]:=rfl
@[simp] theorem size_iface (x0) (x1:D):(D.iface x0 x1:D).size=1:=rfl
@[simp] theorem one_iface (x0) (x1:D):(D.iface x0 x1:D).one=true:=rfl
@[simp] theorem cells_tuple (x0:List D):(D.tuple x0:D).cells= [(D.tuple x0:D)]:=rfl
@[simp] theorem size_tuple (x0:List D):(D.tuple x0:D).size=1:=rfl
@[simp] theorem one_tuple (x0:List D):(D.tuple x0:D).one=false:=rfl
@[simp] theorem cells_slice (x0:List D) (x1:Cp):(D.slice x0 x1:D).cells= [(D.slice x0 x1:D)]:=rfl
@[simp] theorem size_slice (x0:List D) (x1:Cp):(D.slice x0 x1:D).size=1:=rfl
@[simp] theorem one_slice (x0:List D) (x1:Cp):(D.slice x0 x1:D).one=true:=rfl
@[simp] theorem cells_box (x0 x1:Nat):(D.box x0 x1:D).cells= [(D.box x0 x1:D)]:=rfl
@[simp] theorem size_box (x0 x1:Nat):(D.box x0 x1:D).size=1:=rfl
@[simp] theorem one_box (x0 x1:Nat):(D.box x0 x1:D).one=true:=rfl
@[simp] theorem cells_ref (x0:D):(D.ref x0:D).cells= [(D.ref x0:D)]:=rfl
@[simp] theorem size_ref (x0:D):(D.ref x0:D).size=1:=rfl
@[simp] theorem one_ref (x0:D):(D.ref x0:D).one=true:=rfl
@[simp] theorem cells_map (x0:Nat):(D.map x0:D).cells= [(D.map x0:D)]:=rfl
@[simp] theorem size_map (x0:Nat):(D.map x0:D).size=1:=rfl
@[simp] theorem one_map (x0:Nat):(D.map x0:D).one=true:=rfl
@[simp] theorem cells_own (x0 x1:Nat):(D.own x0 x1:D).cells= [(D.own x0 x1:D)]:=rfl
@[simp] theorem size_own (x0 x1:Nat):(D.own x0 x1:D).size=1:=rfl
@[simp] theorem one_own (x0 x1:Nat):(D.own x0 x1:D).one=true:=rfl
@[simp] theorem cells_ebox (x0 x1 x2 x3:Nat):(D.ebox x0 x1 x2 x3:D).cells= [(D.ebox x0 x1 x2 x3:D)]:=rfl
@[simp] theorem size_ebox (x0 x1 x2 x3:Nat):(D.ebox x0 x1 x2 x3:D).size=1:=rfl
@[simp] theorem one_ebox (x0 x1 x2 x3:Nat):(D.ebox x0 x1 x2 x3:D).one=true:=rfl
@[simp] theorem cells_mapc (x0 x1:List D):(D.mapc x0 x1:D).cells= [(D.mapc x0 x1:D)]:=rfl
@[simp] theorem size_mapc (x0 x1:List D):(D.mapc x0 x1:D).size=1:=rfl
@[simp] theorem one_mapc (x0 x1:List D):(D.mapc x0 x1:D).one=true:=rfl
@[simp] theorem range_1:List.range 1= [0]:=rfl
@[simp] theorem range_2:List.range 2= [0,1]:=rfl
@[simp] theorem range_3:List.range 3= [0,1,2]:=rfl
@[simp] theorem range_4:List.range 4= [0,1,2,3]:=rfl
@[simp] theorem range_5:List.range 5= [0,1,2,3,4]:=rfl
@[simp] theorem range_6:List.range 6= [0,1,2,3,4,5]:=rfl
@[simp] theorem range_7:List.range 7= [0,1,2,3,4,5,6]:=rfl
@[simp] theorem range_8:List.range 8= [0,1,2,3,4,5,6,7]:=rfl
abbrev LV:=List (Int×Int)
inductive T where
 | mk (k n a:Int) (ls:List LV) (ks:List T)
namespace T
def k:T ->Int | .mk k _ _ _ _=>k
def n:T ->Int | .mk _ n _ _ _=>n
def a:T ->Int | .mk _ _ a _ _=>a
def ls:T ->List LV | .mk _ _ _ ls _=>ls
def ks:T ->List T | .mk _ _ _ _ ks=>ks
@[simp] theorem k_mk (k n a:Int) (ls:List LV) (ks:List T):(T.mk k n a ls ks).k=k:=rfl
@[simp] theorem n_mk (k n a:Int) (ls:List LV) (ks:List T):(T.mk k n a ls ks).n=n:=rfl
@[simp] theorem a_mk (k n a:Int) (ls:List LV) (ks:List T):(T.mk k n a ls ks).a=a:=rfl
@[simp] theorem ls_mk (k n a:Int) (ls:List LV) (ks:List T):(T.mk k n a ls ks).ls=ls:=rfl
@[simp] theorem ks_mk (k n a:Int) (ls:List LV) (ks:List T):(T.mk k n a ls ks).ks=ks:=rfl
theorem ind{P:T ->Prop}(h:∀k n a ls ks,(∀t,t∈ks ->P t) ->P (.mk k n a ls ks))(t:T):P t :=
 T.rec (motive_1:=P) (motive_2:=fun ks=>∀t,t∈ks ->P t) (fun k n a ls ks ih=>h k n a ls ks ih)
  (fun t ht=>by cases ht) (fun x r hx hr t ht=>by
   cases ht with
   | head=>exact hx
   | tail _ hm=>exact hr t hm) t
end T
def Wv(p:Int×Int):D:= .agg [.int .i64 p.1, .int .i64 p.2]
def Qn(l:LV):D:= .agg [.slice (l.map Wv) .any]
mutual
def Qj:T ->D
 | .mk k n a ls ks=> .agg [.int .i64 k, .int .i64 n, .int .i64 a, .slice (ls.map Qn) .any, .slice (Weo ks) .any]
def Weo:List T ->List D
 | []=> []
 | t::r=>Qj t::Weo r
end
theorem Qla:∀ks:List T,Weo ks=ks.map Qj
 | []=>rfl
 | t::r=>by rw[Weo,Qla r];rfl
theorem Qb(t:T):Qj t= .agg [.int .i64 t.k, .int .i64 t.n, .int .i64 t.a, .slice (t.ls.map Qn) .any, .slice (t.ks.map Qj) .any]:=by
 cases t;rw[Qj,Qla];rfl
theorem Xu(p:Int×Int):(Wv p).pure=true:=rfl
theorem Qdy(l:LV):(Qn l).pure=true:=by
 simp[Qn,D.pure,D.pures,D.pures_map,Xu,Cp.free]
theorem Qev(t:T):(Qj t).pure=true:=by
 induction t using T.ind with
 | h k n a ls ks ih =>
  rw[Qj,Qla];simp[D.pure,D.pures,D.pures_map,Qdy,Cp.free];exact ih
@[simp high] theorem encP_fgt (p:Int×Int):(Wv p).fgt=Wv p:=rfl
@[simp high] theorem encL_fgt (l:LV):(Qn l).fgt=Qn l:=by simp[Qn,D.fgt,D.fgts]
@[simp high] theorem encT_fgt (t:T):(Qj t).fgt=Qj t:=by simp[Qb,D.fgt,D.fgts]
@[simp high] theorem encP_size (p:Int×Int):(Wv p).size=2:=rfl
@[simp high] theorem encL_size (l:LV):(Qn l).size=1:=rfl
@[simp high] theorem Wap (t:T):(Qj t).size=5:=by rw[Qb];rfl
@[simp high] theorem encP_cells (p:Int×Int):(Wv p).cells= [.int .i64 p.1, .int .i64 p.2]:=rfl
@[simp high] theorem encL_cells (l:LV):(Qn l).cells= [.slice (l.map Wv) .any]:=rfl
@[simp high] theorem Qi6 (t:T):(Qj t).cells= [.int .i64 t.k, .int .i64 t.n, .int .i64 t.a, .slice (t.ls.map Qn) .any, .slice (t.ks.map Qj) .any]:=by rw[Qb];rfl
attribute [simp high] Xu Qdy Qev
def Ps(l:List (Int×Int)):D:= .slice (l.map Wv) .any
def Ww(l:List Bool):D:= .slice (l.map .bool) .any
def Qeg(l:List Int):D:= .slice (l.map (.int .i64)) .any
def Lvs(l:List LV):D:= .slice (l.map Qn) .any
def Ts(l:List T):D:= .slice (l.map Qj) .any
theorem Qo0(l:List LV):(Lvs l).pure=true:=by simp[Lvs,D.pure,D.pures_map,Qdy,Cp.free]
theorem Ts_pure(l:List T):(Ts l).pure=true:=by simp[Ts,D.pure,D.pures_map,Qev,Cp.free]
mutual
theorem D.frz_pure(bx:FK)(i:Nat)(x:D):∀d:D,d.pure=true ->D.frz bx i x d=d
 | .junk,_=>rfl
 | .int _ _,_=>rfl
 | .bool _,_=>rfl
 | .str _,_=>rfl
 | .nilp,_=>rfl
 | .nilf,_=>rfl
 | .nili,_=>rfl
 | .nilm,_=>rfl
 | .box _ _,h=>by simp[D.pure]at h
 | .map _,h=>by simp[D.pure]at h
 | .own _ _,h=>by simp[D.pure]at h
 | .ebox _ _ _ _,h=>by simp[D.pure]at h
 | .fn f a b,h=>by
  rw[D.pure,Bool.and_eq_true]at h;rw[D.frz,D.frzs_pure bx i x a h.1,D.frzs_pure bx i x b h.2]
 | .iface t d,h=>by rw[D.pure]at h;rw[D.frz,D.frz_pure bx i x d h]
 | .tuple ds,h=>by rw[D.pure]at h;rw[D.frz,D.frzs_pure bx i x ds h]
 | .agg ds,h=>by rw[D.pure]at h;rw[D.frz,D.frzs_pure bx i x ds h]
 | .slice els c,h=>by
  rw[D.pure,Bool.and_eq_true]at h;rw[D.frz,D.frzs_pure bx i x els h.1]
 | .ref d,h=>by rw[D.pure]at h;rw[D.frz,D.frz_pure bx i x d h]
 | .mapc ks vs,h=>by
  rw[D.pure,Bool.and_eq_true]at h;rw[D.frz,D.frzs_pure bx i x ks h.1,D.frzs_pure bx i x vs h.2]
theorem D.frzs_pure(bx:FK)(i:Nat)(x:D):∀ds:List D,D.pures ds=true ->D.frzs bx i x ds=ds
 | [],_=>rfl
 | d::r,h=>by
  rw[D.pures,Bool.and_eq_true]at h;rw[D.frzs,D.frz_pure bx i x d h.1,D.frzs_pure bx i x r h.2]
end
@[simp high] theorem encP_frz (bx:FK) (i:Nat) (x:D) (p:Int×Int):D.frz bx i x (Wv p)=Wv p:=D.frz_pure bx i x _ (Xu p)
@[simp high] theorem encL_frz (bx:FK) (i:Nat) (x:D) (l:LV):D.frz bx i x (Qn l)=Qn l:=D.frz_pure bx i x _ (Qdy l)
@[simp high] theorem encT_frz (bx:FK) (i:Nat) (x:D) (t:T):D.frz bx i x (Qj t)=Qj t:=D.frz_pure bx i x _ (Qev t)
@[simp high] theorem mapP_frz (bx:FK) (i:Nat) (x:D) (l:LV):D.frzs bx i x (l.map Wv)=l.map Wv:=D.frzs_pure bx i x _ (by simp[D.pures_map,D.pure])
@[simp high] theorem mapL_frz (bx:FK) (i:Nat) (x:D) (l:List LV):D.frzs bx i x (l.map Qn)=l.map Qn:=D.frzs_pure bx i x _ (by simp[D.pures_map,D.pure])
@[simp high] theorem mapT_frz (bx:FK) (i:Nat) (x:D) (l:List T):D.frzs bx i x (l.map Qj)=l.map Qj:=D.frzs_pure bx i x _ (by simp[D.pures_map,D.pure])
@[simp high] theorem mapI_frz (bx:FK) (i:Nat) (x:D) (l:List Int):D.frzs bx i x (l.map (.int .i64))=l.map (.int .i64):=D.frzs_pure bx i x _ (by simp[D.pures_map,D.pure])
@[simp high] theorem mapB_frz (bx:FK) (i:Nat) (x:D) (l:List Bool):D.frzs bx i x (l.map .bool)=l.map .bool:=D.frzs_pure bx i x _ (by simp[D.pures_map,D.pure])
@[simp high] theorem encP_low (m:Nat) (p:Int×Int):(Wv p).low m=true:=D.low_pure m _ (Xu p)
@[simp high] theorem encL_low (m:Nat) (l:LV):(Qn l).low m=true:=D.low_pure m _ (Qdy l)
@[simp high] theorem encT_low (m:Nat) (t:T):(Qj t).low m=true:=D.low_pure m _ (Qev t)
@[simp high] theorem mapP_low (m:Nat) (l:LV):D.lows m (l.map Wv)=true:=D.lows_pure m _ (by simp[D.pures_map,D.pure])
@[simp high] theorem mapL_low (m:Nat) (l:List LV):D.lows m (l.map Qn)=true:=D.lows_pure m _ (by simp[D.pures_map,D.pure])
@[simp high] theorem mapT_low (m:Nat) (l:List T):D.lows m (l.map Qj)=true:=D.lows_pure m _ (by simp[D.pures_map,D.pure])
@[simp high] theorem mapI_low (m:Nat) (l:List Int):D.lows m (l.map (.int .i64))=true:=D.lows_pure m _ (by simp[D.pures_map,D.pure])
@[simp high] theorem mapB_low (m:Nat) (l:List Bool):D.lows m (l.map .bool)=true:=D.lows_pure m _ (by simp[D.pures_map,D.pure])
@[simp high] theorem encP_okN (p:Nat ->Bool) (x:Int×Int):(Wv x).okN p=true:=D.okN_pure p _ (Xu x)
@[simp high] theorem encP_ren (σ:Nat ->Nat) (x:Int×Int):D.ren σ (Wv x)=Wv x:=D.ren_pure σ _ (Xu x)
@[simp high] theorem encL_okN (p:Nat ->Bool) (x:LV):(Qn x).okN p=true:=D.okN_pure p _ (Qdy x)
@[simp high] theorem encL_ren (σ:Nat ->Nat) (x:LV):D.ren σ (Qn x)=Qn x:=D.ren_pure σ _ (Qdy x)
@[simp high] theorem encT_okN (p:Nat ->Bool) (x:T):(Qj x).okN p=true:=D.okN_pure p _ (Qev x)
@[simp high] theorem encT_ren (σ:Nat ->Nat) (x:T):D.ren σ (Qj x)=Qj x:=D.ren_pure σ _ (Qev x)
@[simp high] theorem mapP_okN (p:Nat ->Bool) (l:LV):D.okNs p (l.map Wv)=true:=D.okNs_pure p _ (by simp[D.pures_map,D.pure])
@[simp high] theorem mapP_ren (σ:Nat ->Nat) (l:LV):D.rens σ (l.map Wv)=l.map Wv:=D.rens_pure σ _ (by simp[D.pures_map,D.pure])
@[simp high] theorem mapP_pures (l:LV):D.pures (l.map Wv)=true:=by simp[D.pures_map,D.pure]
@[simp high] theorem mapL_okN (p:Nat ->Bool) (l:List LV):D.okNs p (l.map Qn)=true:=D.okNs_pure p _ (by simp[D.pures_map,D.pure])
@[simp high] theorem Wdy (σ:Nat ->Nat) (l:List LV):D.rens σ (l.map Qn)=l.map Qn:=D.rens_pure σ _ (by simp[D.pures_map,D.pure])
@[simp high] theorem mapL_pures (l:List LV):D.pures (l.map Qn)=true:=by simp[D.pures_map,D.pure]
@[simp high] theorem mapT_okN (p:Nat ->Bool) (l:List T):D.okNs p (l.map Qj)=true:=D.okNs_pure p _ (by simp[D.pures_map,D.pure])
@[simp high] theorem Qh5 (σ:Nat ->Nat) (l:List T):D.rens σ (l.map Qj)=l.map Qj:=D.rens_pure σ _ (by simp[D.pures_map,D.pure])
@[simp high] theorem mapT_pures (l:List T):D.pures (l.map Qj)=true:=by simp[D.pures_map,D.pure]
@[simp high] theorem mapI_okN (p:Nat ->Bool) (l:List Int):D.okNs p (l.map (.int .i64))=true:=D.okNs_pure p _ (by simp[D.pures_map,D.pure])
@[simp high] theorem mapI_ren (σ:Nat ->Nat) (l:List Int):D.rens σ (l.map (.int .i64))=l.map (.int .i64):=D.rens_pure σ _ (by simp[D.pures_map,D.pure])
@[simp high] theorem mapI_pures (l:List Int):D.pures (l.map (.int .i64))=true:=by simp[D.pures_map,D.pure]
@[simp high] theorem mapB_okN (p:Nat ->Bool) (l:List Bool):D.okNs p (l.map .bool)=true:=D.okNs_pure p _ (by simp[D.pures_map,D.pure])
@[simp high] theorem mapB_ren (σ:Nat ->Nat) (l:List Bool):D.rens σ (l.map .bool)=l.map .bool:=D.rens_pure σ _ (by simp[D.pures_map,D.pure])
@[simp high] theorem mapB_pures (l:List Bool):D.pures (l.map .bool)=true:=by simp[D.pures_map,D.pure]
@[simp] theorem Qkm (p:Nat ->Bool):∀a b:List D,D.okNs p (a++b)=(D.okNs p a && D.okNs p b)
 | [],b=>by rw[List.nil_append,D.okNs,Bool.true_and]
 | d::a,b=>by rw[List.cons_append,D.okNs,D.okNs,Qkm p a b,Bool.and_assoc]
theorem Qic(p:Nat ->Bool):∀els:List D,D.pures els=true ->D.okNs p (els.flatMap D.cells)=true
 | [],_=>rfl
 | e::r,h=>by
  rw[D.pures,Bool.and_eq_true]at h;rw[List.flatMap_cons];have h1:D.okNs p e.cells=true:=by
   have:=D.okN_pure p e h.1;cases e
   case agg cs=>rw[D.okN]at this;exact this
   all_goals (show D.okNs p [_]=true;rw[D.okNs,this];rfl)
  have h2:=Qic p r h.2;rw[Qkm,h1,h2];rfl
@[simp high] theorem rowP_okN (p:Nat ->Bool) (l:LV):D.okNs p ((l.map Wv).flatMap D.cells)=true:=Qic p _ (by simp[D.pures_map,D.pure])
@[simp high] theorem Wc5 (σ:Nat ->Nat) (l:LV):(l.map Wv).map (D.ren σ)=l.map Wv:=by rw[<- D.rens_map];exact D.rens_pure σ _ (by simp[D.pures_map,D.pure])
@[simp high] theorem rowP_renc (σ:Nat ->Nat) (l:LV):l.map (D.ren σ∘Wv)=l.map Wv:=by rw[<- List.map_map];exact Wc5 σ l
@[simp high] theorem rowL_okN (p:Nat ->Bool) (l:List LV):D.okNs p ((l.map Qn).flatMap D.cells)=true:=Qic p _ (by simp[D.pures_map,D.pure])
@[simp high] theorem Wc6 (σ:Nat ->Nat) (l:List LV):(l.map Qn).map (D.ren σ)=l.map Qn:=by rw[<- D.rens_map];exact D.rens_pure σ _ (by simp[D.pures_map,D.pure])
@[simp high] theorem rowL_renc (σ:Nat ->Nat) (l:List LV):l.map (D.ren σ∘Qn)=l.map Qn:=by rw[<- List.map_map];exact Wc6 σ l
@[simp high] theorem rowT_okN (p:Nat ->Bool) (l:List T):D.okNs p ((l.map Qj).flatMap D.cells)=true:=Qic p _ (by simp[D.pures_map,D.pure])
@[simp high] theorem Wc3 (σ:Nat ->Nat) (l:List T):(l.map Qj).map (D.ren σ)=l.map Qj:=by rw[<- D.rens_map];exact D.rens_pure σ _ (by simp[D.pures_map,D.pure])
@[simp high] theorem rowT_renc (σ:Nat ->Nat) (l:List T):l.map (D.ren σ∘Qj)=l.map Qj:=by rw[<- List.map_map];exact Wc3 σ l
@[simp high] theorem rowI_okN (p:Nat ->Bool) (l:List Int):D.okNs p ((l.map (.int .i64)).flatMap D.cells)=true:=Qic p _ (by simp[D.pures_map,D.pure])
@[simp high] theorem Wc7 (σ:Nat ->Nat) (l:List Int):(l.map (.int .i64)).map (D.ren σ)=l.map (.int .i64):=by rw[<- D.rens_map];exact D.rens_pure σ _ (by simp[D.pures_map,D.pure])
@[simp high] theorem rowI_renc (σ:Nat ->Nat) (l:List Int):l.map (D.ren σ∘(.int .i64))=l.map (.int .i64):=by rw[<- List.map_map];exact Wc7 σ l
def I64(n:Int):Prop:= -9223372036854775808<=n/\n<=9223372036854775807
def okL(l:LV):Prop:=l.length<=Ql/\∀p,p∈l ->I64 p.1/\I64 p.2
inductive okT : T -> Prop where
 | mk {k n a:Int} {ls:List LV} {ks:List T} (hk:I64 k) (hn:I64 n) (ha:I64 a) (hl:ls.length<=Ql) (hls:∀l,l∈ls ->okL l) (hks:ks.length<=Ql) (h:∀t,t∈ks ->okT t):okT (.mk k n a ls ks)
theorem okT.k{t:T}(h:okT t):I64 t.k:=by cases h;assumption
theorem okT.n{t:T}(h:okT t):I64 t.n:=by cases h;assumption
theorem okT.a{t:T}(h:okT t):I64 t.a:=by cases h;assumption
theorem okT.ll{t:T}(h:okT t):t.ls.length<=Ql:=by cases h;assumption
theorem okT.ls{t:T}(h:okT t):∀l,l∈t.ls ->okL l:=by cases h;assumption
theorem okT.kl{t:T}(h:okT t):t.ks.length<=Ql:=by cases h;assumption
theorem okT.ks{t:T}(h:okT t):∀x,x∈t.ks ->okT x:=by cases h;assumption
end Go.Proofs.YtgloldepdhgfaaaGreatDoor
namespace Go.Proofs.YtgloldepdhgfaaaGreatDoor
set_option linter.unusedSimpArgs false
set_option linter.unusedVariables false
open Go.RowKit
def Qkx:List (Bool×Bool×Int×Int×Int):= [(false,false,0,0,0),(true,false,0,0, -1),(false,false,1,0, -1),(true,false, -1,0, -1),(false,false,0,2,1),(false,false,0,2,1),(false,false,0,2, -1),
 (false,false,0,3,2),(true,true, -1,0, -1),(true,true, -1,0, -1),(true,true, -1,0, -1),(false,true,0,0, -1),(false,false,0,2,1),(false,false,0,2, -1),(false,false,0,1, -1),(false,false,0,1, -1),
 (false,false,0,2,1),(false,false,0,2, -1),(false,false,0,5,1),(false,false,0,3, -1),(false,false,0,0, -1),(false,false,0,6, -1),(true,false,0,0, -1),(true,true,0,0, -1),(false,true,0,2, -1)]
def Qi4:List D:=Qkx.flatMap fun r=> [.bool r.1, .bool r.2.1, .int .i64 r.2.2.1, .int .i64 r.2.2.2.1, .int .i64 r.2.2.2.2]
def Qep(k:Int):Bool×Bool×Int×Int×Int:=Qkx.getD k.toNat (false,false,0,0,0)
def glob:Nat ->Option D:=fun g=>if g=0 then some (.agg Qi4)else none
theorem Qf:∀g d,glob g=some d ->d.pure=true:=fun g d h=>by
 unfold glob at h;split at h
 ·cases h;rfl
 ·cases h
@[simp] theorem glob_kinds:glob 0=some (.agg Qi4):=rfl
theorem Qz0:∀k:Nat,k<25 ->Ws (Qq 222) Qi4 (k * 5)=some (.agg [.bool (Qep k).1, .bool (Qep k).2.1, .int .i64 (Qep k).2.2.1, .int .i64 (Qep k).2.2.2.1, .int .i64 (Qep k).2.2.2.2])
 | 0,_=>by kernel_rfl
 | 1,_=>by kernel_rfl
 | 2,_=>by kernel_rfl
 | 3,_=>by kernel_rfl
 | 4,_=>by kernel_rfl
 | 5,_=>by kernel_rfl
 | 6,_=>by kernel_rfl
 | 7,_=>by kernel_rfl
 | 8,_=>by kernel_rfl
 | 9,_=>by kernel_rfl
 | 10,_=>by kernel_rfl
 | 11,_=>by kernel_rfl
 | 12,_=>by kernel_rfl
 | 13,_=>by kernel_rfl
 | 14,_=>by kernel_rfl
 | 15,_=>by kernel_rfl
 | 16,_=>by kernel_rfl
 | 17,_=>by kernel_rfl
 | 18,_=>by kernel_rfl
 | 19,_=>by kernel_rfl
 | 20,_=>by kernel_rfl
 | 21,_=>by kernel_rfl
 | 22,_=>by kernel_rfl
 | 23,_=>by kernel_rfl
 | 24,_=>by kernel_rfl
 | n+25,h=>absurd h (by omega)
theorem Qcm(f:FuncId)(fn:Func)(hf:Tryz.prog.funcs[f]?=some fn)(hb:fn.body.isSome=true)(hn:fn.name≠ "runtime.NumGoroutine")(vs:Array Value)(w:World):(callFunc f vs).run Tryz.prog w= .ok (.enter f vs) w:=by
 simp[callFunc,hf,hn];cases hq:fn.body with
 | none=>rw[hq]at hb;cases hb
 | some c=>simp
theorem cXp{f:FuncId}{args args':List D}{out:Out}(h:Spec Tryz.prog glob f args [] (fun o _=>o.fgt=out)){hl:List HO}{K:Out ->List HO ->Prop}(hK:K out hl)(ha:D.fgts args'=args:=by simp[D.fgts,D.fgt])(hp:D.pures args=true:=by simp[D.pures,D.pure,Cp.free,D.pures_map])(ho:out.pure=true:=by simp[Out.pure,D.pure,D.pures,Cp.free,D.pures_map]):Wl Tryz.prog glob f args' hl K:=Wl.pure Qf h hK ha hp ho
theorem cYp{f:FuncId}{args args':List D}{out:Out}(h:Spec Tryz.prog glob f args [] (fun o _=>o.fgt=out)){hl:List HO}{K:Out ->List Nat ->List (Nat×HO) ->Prop}(hK:K out [] [])(ha:D.fgts args'=args:=by simp[D.fgts,D.fgt])(hp:D.pures args=true:=by simp[D.pures,D.pure,Cp.free,D.pures_map])(ho:out.pure=true:=by simp[Out.pure,D.pure,D.pures,Cp.free,D.pures_map]):Xp Tryz.prog glob f args' hl K:=Xp.pure Qf h hK ha hp ho
theorem cXo{f:FuncId}{args args':List D}{objs:List HO}{Post:Out ->List HO ->Prop}{hl:List HO}{K:Out ->List HO ->Prop}(σl:List Nat)(fa:Bool)(h:Spec Tryz.prog glob f args objs Post)
  (hK:∀out hc,Post out hc ->∃fr:Bool,K ((told fr out).ren (Qd4 σl hl.length)) (Qw hl (upO σl hl.length hc)))
  (hk:∀out hc,Post out hc ->σl.length<=hc.length:=by rintro o hc ⟨_,rfl⟩;simp) (hnd:σl.Nodup:=by decide) (hlt:(σl.all fun i=>decide (i<hl.length))=true:=by simp) (hobj:σl.map (fun i=>(hOf hl i).ren (Qhm σl))=objs:=by simp[D.ren,D.rens,D.okN,D.okNs,Cp.ren,Cp.okN,HO.ren,HO.okN,okA,Qhm,Qd4,hOf,Qbg,D.fgt,D.fgts,List.range_succ,List.idxOf_cons]) (hok:(σl.all fun i=>(hOf hl i).okN (okA σl))=true:=by simp[D.ren,D.rens,D.okN,D.okNs,Cp.ren,Cp.okN,HO.ren,HO.okN,okA,Qhm,Qd4,hOf,Qbg,D.fgt,D.fgts,List.range_succ,List.idxOf_cons])
  (ha:D.rens (Qhm σl) (Qbg fa args')=args:=by simp[D.ren,D.rens,D.okN,D.okNs,Cp.ren,Cp.okN,HO.ren,HO.okN,okA,Qhm,Qd4,hOf,Qbg,D.fgt,D.fgts,List.range_succ,List.idxOf_cons]) (hoka:D.okNs (okA σl) (Qbg fa args')=true:=by simp[D.ren,D.rens,D.okN,D.okNs,Cp.ren,Cp.okN,HO.ren,HO.okN,okA,Qhm,Qd4,hOf,Qbg,D.fgt,D.fgts,List.range_succ,List.idxOf_cons]):Wl Tryz.prog glob f args' hl K:=Wl.objs Qf σl fa h hK hk hnd hlt hobj hok ha hoka
theorem cYo{f:FuncId}{args args':List D}{objs:List HO}{Post:Out ->List HO ->Prop}{hl:List HO}{K:Out ->List Nat ->List (Nat×HO) ->Prop}(σl:List Nat)(fa fr:Bool){out:Out}{hc:List HO}(h:Spec Tryz.prog glob f args objs Post)
  (hP:∀o h',Post o h' ->told fr o=out/\h'=hc) (hK:K (out.ren (Qd4 σl hl.length)) (rdO σl hl.length hc) (upO σl hl.length hc))
  (hk:σl.length<=hc.length:=by simp) (hnd:σl.Nodup:=by decide) (hlt:(σl.all fun i=>decide (i<hl.length))=true:=by simp) (hobj:σl.map (fun i=>(hOf hl i).ren (Qhm σl))=objs:=by simp[D.ren,D.rens,D.okN,D.okNs,Cp.ren,Cp.okN,HO.ren,HO.okN,okA,Qhm,Qd4,hOf,Qbg,D.fgt,D.fgts,List.range_succ,List.idxOf_cons]) (hok:(σl.all fun i=>(hOf hl i).okN (okA σl))=true:=by simp[D.ren,D.rens,D.okN,D.okNs,Cp.ren,Cp.okN,HO.ren,HO.okN,okA,Qhm,Qd4,hOf,Qbg,D.fgt,D.fgts,List.range_succ,List.idxOf_cons])
  (ha:D.rens (Qhm σl) (Qbg fa args')=args:=by simp[D.ren,D.rens,D.okN,D.okNs,Cp.ren,Cp.okN,HO.ren,HO.okN,okA,Qhm,Qd4,hOf,Qbg,D.fgt,D.fgts,List.range_succ,List.idxOf_cons]) (hoka:D.okNs (okA σl) (Qbg fa args')=true:=by simp[D.ren,D.rens,D.okN,D.okNs,Cp.ren,Cp.okN,HO.ren,HO.okN,okA,Qhm,Qd4,hOf,Qbg,D.fgt,D.fgts,List.range_succ,List.idxOf_cons]):Xp Tryz.prog glob f args' hl K:=Xp.objs Qf σl fa fr h hP hK hk hnd hlt hobj hok ha hoka
theorem zz:type_of% (And.intro @D.ren.eq_1 (And.intro @D.ren.eq_2 (And.intro @D.ren.eq_3 (And.intro @D.ren.eq_4 (And.intro @D.ren.eq_5 (And.intro @D.ren.eq_6 (And.intro @D.ren.eq_7 (And.intro @D.ren.eq_8 (And.intro @D.ren.eq_9 (And.intro @D.ren.eq_10 (And.intro @D.ren.eq_11 (And.intro @D.ren.eq_12 (And.intro @D.ren.eq_13 (And.intro @D.ren.eq_14 (And.intro @D.ren.eq_15 (And.intro @D.ren.eq_16 (And.intro @D.ren.eq_17 (And.intro @D.ren.eq_18 (And.intro @D.ren.eq_19 (And.intro @D.rens.eq_1 (And.intro @D.rens.eq_2 (And.intro @D.okN.eq_1 (And.intro @D.okN.eq_2 (And.intro @D.okN.eq_3 (And.intro @D.okN.eq_4 (And.intro @D.okN.eq_5 (And.intro @D.okN.eq_6 (And.intro @D.okN.eq_7 (And.intro @D.okN.eq_8 (And.intro @D.okN.eq_9 (And.intro @D.okN.eq_10 (And.intro @D.okN.eq_11 (And.intro @D.okN.eq_12 (And.intro @D.okNs.eq_1 (And.intro @D.okNs.eq_2 (And.intro @Cp.ren.eq_1 (And.intro @Cp.ren.eq_2 (And.intro @Cp.okN.eq_1 (And.intro @Cp.okN.eq_2 (And.intro @HO.ren.eq_1 (And.intro @HO.ren.eq_2 (And.intro @HO.ren.eq_3 (And.intro @HO.ren.eq_4 (And.intro @HO.ren.eq_5 (And.intro @HO.ren.eq_6 (And.intro @HO.okN.eq_1 (And.intro @HO.okN.eq_2 (And.intro @HO.okN.eq_3 (And.intro @HO.okN.eq_4 (And.intro @D.fgt.eq_1 (And.intro @D.fgt.eq_2 (And.intro @D.fgt.eq_3 (And.intro @D.fgt.eq_4 (And.intro @D.fgt.eq_5 (And.intro @D.fgts.eq_1 (And.intro @D.fgts.eq_2 (And.intro @List.range_succ ((@List.idxOf_cons Nat))))))))))))))))))))))))))))))))))))))))))))))))))))))))))):=And.intro @D.ren.eq_1 (And.intro @D.ren.eq_2 (And.intro @D.ren.eq_3 (And.intro @D.ren.eq_4 (And.intro @D.ren.eq_5 (And.intro @D.ren.eq_6 (And.intro @D.ren.eq_7 (And.intro @D.ren.eq_8 (And.intro @D.ren.eq_9 (And.intro @D.ren.eq_10 (And.intro @D.ren.eq_11 (And.intro @D.ren.eq_12 (And.intro @D.ren.eq_13 (And.intro @D.ren.eq_14 (And.intro @D.ren.eq_15 (And.intro @D.ren.eq_16 (And.intro @D.ren.eq_17 (And.intro @D.ren.eq_18 (And.intro @D.ren.eq_19 (And.intro @D.rens.eq_1 (And.intro @D.rens.eq_2 (And.intro @D.okN.eq_1 (And.intro @D.okN.eq_2 (And.intro @D.okN.eq_3 (And.intro @D.okN.eq_4 (And.intro @D.okN.eq_5 (And.intro @D.okN.eq_6 (And.intro @D.okN.eq_7 (And.intro @D.okN.eq_8 (And.intro @D.okN.eq_9 (And.intro @D.okN.eq_10 (And.intro @D.okN.eq_11 (And.intro @D.okN.eq_12 (And.intro @D.okNs.eq_1 (And.intro @D.okNs.eq_2 (And.intro @Cp.ren.eq_1 (And.intro @Cp.ren.eq_2 (And.intro @Cp.okN.eq_1 (And.intro @Cp.okN.eq_2 (And.intro @HO.ren.eq_1 (And.intro @HO.ren.eq_2 (And.intro @HO.ren.eq_3 (And.intro @HO.ren.eq_4 (And.intro @HO.ren.eq_5 (And.intro @HO.ren.eq_6 (And.intro @HO.okN.eq_1 (And.intro @HO.okN.eq_2 (And.intro @HO.okN.eq_3 (And.intro @HO.okN.eq_4 (And.intro @D.fgt.eq_1 (And.intro @D.fgt.eq_2 (And.intro @D.fgt.eq_3 (And.intro @D.fgt.eq_4 (And.intro @D.fgt.eq_5 (And.intro @D.fgts.eq_1 (And.intro @D.fgts.eq_2 (And.intro @List.range_succ ((@List.idxOf_cons Nat))))))))))))))))))))))))))))))))))))))))))))))))))))))))))
theorem zs:type_of% (And.intro @Qx (And.intro @Wk.eq_1 (And.intro @Wk.eq_2 (And.intro @Qz.eq_1 @Qz.eq_2)))):=And.intro @Qx (And.intro @Wk.eq_1 (And.intro @Wk.eq_2 (And.intro @Qz.eq_1 @Qz.eq_2)))
theorem dR{M:Nat}{Q:DQ}{tl:List D}{hl:List HO}{df:Df}{id:Nat}{ops:Array Oper}(h:∀K:List D ->List HO ->Foot ->List (Nat×D) ->Prop,(∀tl' hl' fp pk,(Qbw ops tl.length (fpAt fp) && decide (hl.length<=hl'.length) && fp.all fun p=>p.2.all fun r=>decide (r<hl'.length))=true ->(match pk with
   | []=>Q .nrm tl' hl' df
   | _=>∀p,p∈pk ->Q (.pan p.2) (Qky ops tl) (Xi fp (hl++List.replicate (hl'.length - hl.length) .free)) df) ->K tl' hl' fp pk) ->wpT Tryz.prog glob Qq ops ops.toList 0 tl hl [] [] K) (hm:Tryz.prog.follows .mixedOrders=true:=by kernel_rfl) (hb:Wbg ops=true:=by kernel_rfl):wpD Tryz.prog glob M (.region id ops true) Q tl hl df:=Qxs Wa hm hb h
theorem sR{M:Nat}{Q:DQ}{tl:List D}{hl:List HO}{df:Df}{id:Nat}{ops:Array Oper}{y:Code}(h:∀K:List D ->List HO ->Df ->Prop,(∀tl hl df,wpD Tryz.prog glob M y Q tl hl df ->K tl hl df) ->wpS Tryz.prog glob Qq ops ops.toList tl hl df (fun tl hl df=>Wk K Q .nrm tl hl df) (fun d tl hl df=>Wk K Q (.pan d) tl hl df)):wpD Tryz.prog glob M (.seq (.region id ops false) y) Q tl hl df:=Qc fun K hK=>Qi Wa (h K hK)
theorem sI{M:Nat}{Q:DQ}{tl:List D}{hl:List HO}{df:Df}{id:Nat}{ops:Array Oper}{y:Code}(h:∀K:List D ->List HO ->Df ->Prop,(∀{tl hl df},wpD Tryz.prog glob M y Q tl hl df ->K tl hl df) ->wpS Tryz.prog glob Qq ops ops.toList tl hl df (fun tl hl df=>Wk K Q .nrm tl hl df) (fun d tl hl df=>Wk K Q (.pan d) tl hl df)):wpD Tryz.prog glob M (.seq (.region id ops false) y) Q tl hl df:=Qc fun K hK=>Qi Wa (h K fun {tl hl df}=>hK tl hl df)
theorem pF{M:Nat}{Q:DQ}{tl:List D}{hl:List HO}{df:Df}{c:Operand}{x y:Code}(hc:opD glob (Wc tl) c= .bool false)(h:wpD Tryz.prog glob M y Q tl hl df):wpD Tryz.prog glob M (.cond c x y) Q tl hl df:=Qac hc (fun h=>by cases h) (fun _=>h)
theorem pT{M:Nat}{Q:DQ}{tl:List D}{hl:List HO}{df:Df}{c:Operand}{x y:Code}(hc:opD glob (Wc tl) c= .bool true)(h:wpD Tryz.prog glob M x Q tl hl df):wpD Tryz.prog glob M (.cond c x y) Q tl hl df:=Qac hc (fun _=>h) (fun h=>by cases h)
theorem zA:type_of% (And.intro @zz (And.intro @okA.eq_1 (And.intro @Qhm.eq_1 (And.intro @Qd4.eq_1 (And.intro @hOf.eq_1 (@Qbg.eq_1)))))):=And.intro @zz (And.intro @okA.eq_1 (And.intro @Qhm.eq_1 (And.intro @Qd4.eq_1 (And.intro @hOf.eq_1 (@Qbg.eq_1)))))
theorem zM:type_of% (And.intro @zA (And.intro @Out.mov.eq_1 (And.intro @Out.mov.eq_2 (And.intro @Qhd.eq_1 (And.intro @Qn9.eq_1 (And.intro @Qzf.eq_1 (And.intro @D.mov.eq_1 (And.intro @HO.mov.eq_1 (And.intro @okM.eq_1 (And.intro @renM.eq_1 (And.intro @Qb4.eq_1 (And.intro @Wc.eq_1 (And.intro @Out.fgt.eq_1 (@Out.fgt.eq_2)))))))))))))):=And.intro @zA (And.intro @Out.mov.eq_1 (And.intro @Out.mov.eq_2 (And.intro @Qhd.eq_1 (And.intro @Qn9.eq_1 (And.intro @Qzf.eq_1 (And.intro @D.mov.eq_1 (And.intro @HO.mov.eq_1 (And.intro @okM.eq_1 (And.intro @renM.eq_1 (And.intro @Qb4.eq_1 (And.intro @Wc.eq_1 (And.intro @Out.fgt.eq_1 (@Out.fgt.eq_2)))))))))))))
theorem zU:type_of% (And.intro @zA (And.intro @Out.ren.eq_1 (And.intro @Out.ren.eq_2 (And.intro @told.eq_1 (And.intro @upO.eq_1 (And.intro @Out.fgt.eq_1 (And.intro @Out.fgt.eq_2 (@rdO.eq_1)))))))):=And.intro @zA (And.intro @Out.ren.eq_1 (And.intro @Out.ren.eq_2 (And.intro @told.eq_1 (And.intro @upO.eq_1 (And.intro @Out.fgt.eq_1 (And.intro @Out.fgt.eq_2 (@rdO.eq_1)))))))
theorem zr:type_of% (And.intro (@Qo Tryz.prog glob Qq) (And.intro (@Qp Tryz.prog glob Qq) (And.intro @Qr.eq_1 (And.intro @Qr.eq_2 (And.intro @Qw.eq_1 (And.intro @Qw.eq_2 (@Wi.eq_1))))))):=And.intro (@Qo Tryz.prog glob Qq) (And.intro (@Qp Tryz.prog glob Qq) (And.intro @Qr.eq_1 (And.intro @Qr.eq_2 (And.intro @Qw.eq_1 (And.intro @Qw.eq_2 (@Wi.eq_1))))))
theorem zq:type_of% (And.intro (@Qt Tryz.prog glob Qq) (And.intro (@Qu Tryz.prog glob Qq) (And.intro @Qr.eq_1 (And.intro @Qr.eq_2 (And.intro @Qw.eq_1 (And.intro @Qw.eq_2 (@Wi.eq_1))))))):=And.intro (@Qt Tryz.prog glob Qq) (And.intro (@Qu Tryz.prog glob Qq) (And.intro @Qr.eq_1 (And.intro @Qr.eq_2 (And.intro @Qw.eq_1 (And.intro @Qw.eq_2 (@Wi.eq_1))))))
theorem eN{f:FuncId}{fn:Func}{c:Code}{args:List D}{hc:List HO}{Post:Out ->List HO ->Prop}{n:Nat}{rs:List ResultVar}(hf:Tryz.prog.funcs[f]?=some fn)(hb:fn.body=some c)(hm:fn.name≠ "runtime.NumGoroutine")(hn:fn.ntmps=n)(hrs:fn.results.toList=rs)(h:wpD Tryz.prog glob hc.length c (Qk Qq rs (PostM hc.length Post)) (args++List.replicate (n - args.length) (.tuple [])) hc []):Spec Tryz.prog glob f args hc Post:=Spec.movd Qf (Wb5 Wa hf hb (Qcm _ _ hf (by rw[hb];rfl) hm) hn hrs h)
theorem eD{f:FuncId}{fn:Func}{c:Code}{args:List D}{hc:List HO}{Post:Out ->List HO ->Prop}{n:Nat}{rs:List ResultVar}(hf:Tryz.prog.funcs[f]?=some fn)(hb:fn.body=some c)(hm:fn.name≠ "runtime.NumGoroutine")(hn:fn.ntmps=n)(hrs:fn.results.toList=rs)(h:wpD Tryz.prog glob hc.length c (EndQD Tryz.prog glob Qq rs (PostM hc.length Post)) (args++List.replicate (n - args.length) (.tuple [])) hc []):Spec Tryz.prog glob f args hc Post:=Spec.movd Qf (Qxq Wa hf hb (Qcm _ _ hf (by rw[hb];rfl) hm) hn hrs h)
theorem cXf{f:FuncId}{args args':List D}{objs:List HO}{hl:List HO}{K:Out ->List HO ->Prop}(σl:List Nat){out:Out}{hc:List HO}(h:Spec Tryz.prog glob f args objs (fun o h'=>o.fgt=out/\h'=hc))(hK:K (out.ren (Qd4 σl hl.length)) (Qw hl (upO σl hl.length hc)))(hk:σl.length<=hc.length:=by simp)(hnd:σl.Nodup:=by decide)(hlt:(σl.all fun i=>decide (i<hl.length))=true:=by simp)(hobj:σl.map (fun i=>(hOf hl i).ren (Qhm σl))=objs:=by simp[zA])(hok:(σl.all fun i=>(hOf hl i).okN (okA σl))=true:=by simp[zA])
  (ha:D.rens (Qhm σl) (Qbg true args')=args:=by simp[zA]) (hoka:D.okNs (okA σl) (Qbg true args')=true:=by simp[zA]):Wl Tryz.prog glob f args' hl K:=Wl.objs Qf σl true h (fun o h' ⟨ho,hh⟩=>⟨true,by subst hh;rw[show told true o=_ from ho];exact hK⟩) (fun o h' ⟨_,hh⟩=>by subst hh;exact hk) hnd hlt hobj hok ha hoka
theorem cXg{f:FuncId}{args args':List D}{objs:List HO}{hl:List HO}{K:Out ->List HO ->Prop}(σl:List Nat){out:Out}{hc:List HO}(h:Spec Tryz.prog glob f args objs (fun o h'=>o=out/\h'=hc))(hK:K (out.ren (Qd4 σl hl.length)) (Qw hl (upO σl hl.length hc)))(hk:σl.length<=hc.length:=by simp)(hnd:σl.Nodup:=by decide)(hlt:(σl.all fun i=>decide (i<hl.length))=true:=by simp)(hobj:σl.map (fun i=>(hOf hl i).ren (Qhm σl))=objs:=by simp[zA])(hok:(σl.all fun i=>(hOf hl i).okN (okA σl))=true:=by simp[zA])
  (ha:D.rens (Qhm σl) (Qbg true args')=args:=by simp[zA]) (hoka:D.okNs (okA σl) (Qbg true args')=true:=by simp[zA]):Wl Tryz.prog glob f args' hl K:=Wl.objs Qf σl true h (fun o h' ⟨ho,hh⟩=>⟨false,by subst hh;subst ho;exact hK⟩) (fun o h' ⟨_,hh⟩=>by subst hh;exact hk) hnd hlt hobj hok ha hoka
theorem cXr{f:FuncId}{args args':List D}{d:D}{ops:Array Oper}{r:List Oper}{tl:List D}{dst:Option Tmp}{df:Df}{K:List D ->List HO ->Df ->Prop}{QP:D ->List D ->List HO ->Df ->Prop}(h:Spec Tryz.prog glob f args [] (fun o _=>o.fgt= .ret d)){hl:List HO}(hK:wpS Tryz.prog glob Qq ops r (Qr tl dst d) hl df K QP)(ha:D.fgts args'=args:=by simp[D.fgts,D.fgt])(hp:D.pures args=true:=by simp[D.pures,D.pure,Cp.free,D.pures_map])(ho:(Out.ret d).pure=true:=by simp[Out.pure,D.pure,D.pures,Cp.free,D.pures_map]):Wl Tryz.prog glob f args' hl (fun o hl=>Wcc Tryz.prog glob Qq ops r tl dst df K QP o hl):=Wl.pure Qf h hK ha hp ho
abbrev Sp:=Spec Tryz.prog glob
abbrev rt(d:D):Out ->List HO ->Prop:=fun o _=>o.fgt= .ret d
@[simp] theorem rt_eq (d:D) (o:Out) (h:List HO):rt d o h=(o.fgt= .ret d):=rfl
section
variable {P : Program} {G : Nat -> Option D} {M : Nat} {Q : DQ} {tl tl' : List D} {hl : List HO} {df : Df}
structure LeT (l m : List D) : Prop where
 h:leT l m
theorem LeT.refl(l:List D):LeT l l:=⟨Qd5 l⟩
theorem Xo{c:Code}(h:LeT tl tl')(hw:wpD P G M c Q tl hl df):wpD P G M c Q tl' hl df:=Qcb h.h hw
theorem Wb8{c:Code}(t:Nat)(h:wpD P G M c Q (tl.modify t D.fgt) hl df):wpD P G M c Q tl hl df:=fun ρ0 w0 H0 ρ w a hbs hst=>by
 have hlen:(tl.modify t D.fgt).length=tl.length:=List.length_modify ..
 have:=h ρ0 w0 H0 ρ w a hbs ⟨hst.rel,hst.ex,fun k=>by
  have hk:=hst.tmp k;have e:Wc (tl.modify t D.fgt) k=if t=k then(Wc tl k).fgt else Wc tl k:=by
   unfold Wc;rw[List.getD_eq_getElem?_getD,List.getD_eq_getElem?_getD,List.getElem?_modify];split
   ·cases tl[k]? <;> rfl
   ·simp
  rw[e];split
  ·exact Qrc _ _ hk
  ·exact hk,hst.size.trans hlen.symm,hst.df⟩
 rw[hlen]at this;exact this
theorem Qxr{c:Code}(W:List Nat)(h:wpD P G M c Q (Qh tl W (W.map fun _=> .junk)) hl df):wpD P G M c Q tl hl df:=Qcb (Qzv W (Qd5 tl)) h
theorem Qtl{x y:Code}(W:List Nat)(ds:List D)(hl1:List HO)(h1:wpD P G M y Q (Qh tl W ds) hl1 df)
  (h2:∀K:List D ->List HO ->Df ->Prop,(∀tl',leT (Qh tl W ds) tl' ->K tl' hl1 df) ->wpD P G M x (Wk K Q) tl hl df):wpD P G M (.seq x y) Q tl hl df :=
 Qc fun K hK=>h2 K fun tl' h=>hK _ _ _ (Qcb h h1)
theorem Wdu(m:Nat)(κ:List Nat):D.mov m κ .junk= .junk:=by unfold D.mov;split <;> rfl
theorem Qbb{c:Code}(J S:List Nat)(I:Nat ->List D ->List HO ->Prop)(n0:Nat)(h0:tl=Qh tl (J++S) (Qb4 (J++S) tl))(hI:I n0 (Qb4 S tl) hl)
  (hr:∀n ds hl' (A:List D ->List HO ->Df ->Prop),(∀m tl3 tl2 hl2,LeT tl3 tl2 ->m<n ->tl3=Qh tl (J++S) (Qb4 (J++S) tl3) ->I m (Qb4 S tl3) hl2 ->A tl2 hl2 df) ->I n ds hl' ->
   wpD P G M c (Wk A Q) (Qh tl (J++S) (J.map (fun _=> .junk)++ds)) hl' df):wpD P G M (.loop c) Q tl hl df:=by
 refine Qtn (fun n tl2 hl2 df2=>df2=df/\∃ds,leT (Qh tl (J++S) (J.map (fun _=> .junk)++ds)) tl2/\I n ds hl2) n0 ⟨rfl,_,Qf2 h0,hI⟩ ?_;rintro n tl' hl' df' - ⟨rfl,ds,hle,hIn⟩;exact Qcb hle (hr n ds hl' _ (fun m tl3 tl2 hl2 k h1 h2 h3=>⟨m,h1,rfl,_,Qh7 (Qf2 h2) k.h,h3⟩) hIn)
theorem Qvi{c:Code}(hG:∀g d,G g=some d ->d.pure=true)(J S:List Nat)(I:Nat ->List D ->List HO ->Prop)(n0:Nat)(h0:tl=Qh tl (J++S) (Qb4 (J++S) tl))(hI:I n0 (Qb4 S tl) hl)
  (hr:∀n ds hl' (A:List D ->List HO ->Df ->Prop),(∀k tl3 tl2 hl2,LeT tl3 tl2 ->k<n ->tl3=Qh tl (J++S) (Qb4 (J++S) tl3) ->I k (Qb4 S tl3) hl2 ->A tl2 hl2 []) ->
   (∀(κ:List Nat) k tl3 tl2 hl2,LeT tl3 tl2 ->κ.Nodup ->(κ.all fun i=>decide (M<=i))=true ->k<n ->Qhd M κ tl3=Qh tl (J++S) (Qb4 (J++S) (Qhd M κ tl3)) ->I k (Qb4 S (Qhd M κ tl3)) (Qn9 M κ hl2) ->A tl2 hl2 []) ->I n ds hl' ->
   wpD P G M c (Wk A Q) (Qh tl (J++S) (J.map (fun _=> .junk)++ds)) hl' []):wpD P G M (.loop c) Q tl hl []:=by
 refine Qo4 hG (fun n tl2 hl2=>∃ds,leT (Qh tl (J++S) (J.map (fun _=> .junk)++ds)) tl2/\I n ds hl2) n0 ⟨_,Qf2 h0,hI⟩ ?_;rintro n tl' hl' A - hA hA2 ⟨ds,hle,hIn⟩
 exact Qcb hle (hr n ds hl' _ (fun m tl3 tl2 hl2 k h1 h2 h3=>hA m tl2 hl2 h1 ⟨_,Qh7 (Qf2 h2) k.h,h3⟩)
  (fun κ m tl3 tl2 hl2 k k1 k2 h1 h2 h3=>hA2 κ m tl2 hl2 k1 k2 h1 ⟨_,Qh7 (Qf2 h2) (Qzw (Wdu M κ) k.h),h3⟩) hIn)
theorem Xm{T:TypeId ->Ty}(hT:∀t,Zf P t (T t))(hG:∀g d,G g=some d ->d.pure=true){b0 b1 r1 r2:Nat}{ops1 ops2:Array Oper}{o1 o2 o3:Oper}{body:Code}{ti tk tn td ts:Nat}(J S:List Nat)(n:Nat)(I:Nat ->List D ->List HO ->Prop)
  (h1:ops1.toList= [o1]) (e1:o1.op= .binOp .lss ti (.tmp tk) (.tmp tn) ti) (g1:o1.guard=none) (d1:o1.dst=some td) (h2:ops2.toList= [o2,o3]) (e2:o2.op= .binOp .add ti (.tmp tk) (.const (.int .i64 1)) ti) (g2:o2.guard=none) (d2:o2.dst=some ts)
  (e3:o3.op= .move (.tmp ts)) (g3:o3.guard=none) (d3:o3.dst=some tk) (hti:(T ti).k= .int .i64) (hlen:tk<tl.length/\td<tl.length/\ts<tl.length) (hne:td≠tk/\td≠tn/\ts≠tk/\ts≠tn/\tk≠tn) (hn:tl.getD tn .junk= .int .i64 n) (hnl:n<=Ql) (hk0:tl.getD tk .junk= .int .i64 0)
  (hw:tl=(Qh tl (J++S) (Qb4 (J++S) tl)).set tk (.int .i64 0)) (htn:¬ tn∈J++S)
  (hI:I 0 (Qb4 S tl) hl)
  (hr:∀k ds hl' (A:List D ->List HO ->Df ->Prop),k<n ->I k ds hl' ->
   (∀tl3 tl2 hl2,LeT tl3 tl2 ->(tl3.set ts (.int .i64 (k+1))).set tk (.int .i64 (k+1))=(Qh tl (J++S) (Qb4 (J++S) ((tl3.set ts (.int .i64 (k+1))).set tk (.int .i64 (k+1))))).set tk (.int .i64 (k+1)) ->I (k+1) (Qb4 S ((tl3.set ts (.int .i64 (k+1))).set tk (.int .i64 (k+1)))) hl2 ->tl3.getD tk .junk= .int .i64 k ->A tl2 hl2 []) ->
   (∀(κ:List Nat) tl3 tl2 hl2,LeT tl3 tl2 ->κ.Nodup ->(κ.all fun i=>decide (M<=i))=true ->Qhd M κ ((tl3.set ts (.int .i64 (k+1))).set tk (.int .i64 (k+1)))=(Qh tl (J++S) (Qb4 (J++S) (Qhd M κ ((tl3.set ts (.int .i64 (k+1))).set tk (.int .i64 (k+1)))))).set tk (.int .i64 (k+1)) ->
    I (k+1) (Qb4 S (Qhd M κ ((tl3.set ts (.int .i64 (k+1))).set tk (.int .i64 (k+1))))) (Qn9 M κ hl2) ->tl3.getD tk .junk= .int .i64 k ->A tl2 hl2 []) ->
   wpD P G M body (Qz b1 (Wk A (Qz b0 Q))) (((Qh tl (J++S) (J.map (fun _=> .junk)++ds)).set tk (.int .i64 k)).set td (.bool true)) hl' [])
  (he:∀ds hl' tl',I n ds hl' ->LeT (((Qh tl (J++S) (J.map (fun _=> .junk)++ds)).set tk (.int .i64 n)).set td (.bool false)) tl' ->Q .nrm tl' hl' []) :
  wpD P G M (.block b0 (.loop (.seq (.region r1 ops1 false) (.seq (.cond (.tmp td) .skip (.exit b0)) (.seq (.block b1 body) (.region r2 ops2 false)))))) Q tl hl []:=by
 refine Qme hT hG (J++S) n (fun k ys hl=>∃js ds,ys=js++ds/\js.length=J.length/\I k ds hl) h1 e1 g1 d1 h2 e2 g2 d2 e3 g3 d3 hti hlen hne hn hnl hk0 hw htn ⟨_,_,Qff ..,Qfe ..,hI⟩ ?_ ?_
 ·rintro k ys hl' A hk ⟨js,ds,rfl,hj,hIn⟩ hA hA2 hAm
  refine Qcb (Qcv _ _ (Qcv _ _ (Qmv J S js ds hj (Qd5 _)))) (hr k ds hl' A hk hIn (fun tl3 tl2 hl2 h0 h1 h2 h3=>hAm _ _ _ h0.h (hA tl3 hl2 h1 ⟨_,_,Qff ..,Qfe ..,h2⟩ h3))
   (fun κ tl3 tl2 hl2 h0 k1 k2 h1 h2 h3=>hAm _ _ _ h0.h (hA2 κ tl3 hl2 k1 k2 h1 ⟨_,_,Qff ..,Qfe ..,h2⟩ h3)))
 ·rintro ys hl' ⟨js,ds,rfl,hj,hIn⟩;exact he ds hl' _ hIn ⟨Qcv _ _ (Qcv _ _ (Qmv J S js ds hj (Qd5 _)))⟩
variable {T : TypeId -> Ty}
theorem Qdk{ops:Array Oper}(hT:∀t,Zf P t (T t)){ρ0:Rho}{w0:World}{H0:Nat ->HO}{Q:Exit ->Act ->World ->Prop}(l2:List Oper):∀(l:List Oper) (tl:List D) (hl:List HO) (df:Df) (K:List D ->List HO ->Df ->Prop) (QP:D ->List D ->List HO ->Df ->Prop),wpS P G T ops l tl hl df K QP ->
  (∀tl' hl' df' ρ w a,K tl' hl' df' ->tl'.length=tl.length ->InSt G ρ0 w0 H0 tl.length ρ w a (Wc tl') (hOf hl') df' ->wpList P ops Q l2 a w) ->
  (∀d u tl' hl' df' ρ w a,QP d tl' hl' df' ->tl'.length=tl.length ->InSt G ρ0 w0 H0 tl.length ρ w a (Wc tl') (hOf hl') df' ->Rp ρ w d u ->Q (.panic (Qej u)) a w) ->
  ∀ρ w a,InSt G ρ0 w0 H0 tl.length ρ w a (Wc tl) (hOf hl) df ->wpList P ops Q (l++l2) a w
 | [],tl,hl,df,K,QP,h,hK,hP,ρ,w,a,hst=>hK tl hl df ρ w a h rfl hst
 | o::r,tl,hl,df,K,QP,h,hK,hP,ρ,w,a,hst=>by
  show Qe2 P ops Q o (wpList P ops Q (r++l2)) a w;have hu:∀t,t∈Oper.looksAt ops o ->Rp ρ w (Wc tl t) (a.tmps.getD t undef):=fun t _=>hst.tmp t
  rw[wpS]at h;cases hw:Wn ops (Wc tl) o with
  | none=>rw[hw]at h;exact h.elim
  | some g =>
   rw[hw]at h;dsimp only at h;cases g with
   | false =>
    simp only[Bool.false_eq_true,if_false]at h;refine Qse hw hst.rel hu fun u ρ' w' h1 h2 h3=>?_
    refine Qdk hT l2 r _ _ _ K QP h (fun tl' hl' df' ρ w a k1 k2 k3=>?_) (fun d u tl' hl' df' ρ w a k1 k2 k3 k4=>?_) ρ' w' _ (hst.put o.dst h1 h2 h3)
    ·rw[Xh]at k2 k3;exact hK _ _ _ _ _ _ k1 k2 k3
    ·rw[Xh]at k2 k3;exact hP _ _ _ _ _ _ _ _ k1 k2 k3 k4
   | true =>
    simp only[if_true]at h;cases hev:Xg T (opD G (Wc tl)) (hOf hl) hl.length o with
    | none=>rw[hev]at h;exact h.elim
    | some x =>
     rw[hev]at h;cases x with
     | val d rd up =>
      dsimp only at h;refine Qsc hT hw hev hst.rel (fun _ _=>rfl) hu fun u ρ' w' h1 h2 h3=>?_
      refine Qdk hT l2 r _ _ _ K QP h (fun tl' hl' df' ρ w a k1 k2 k3=>?_) (fun d u tl' hl' df' ρ w a k1 k2 k3 k4=>?_) ρ' w' _ (hst.put o.dst h1 h2 h3)
      ·rw[Xh]at k2 k3;exact hK _ _ _ _ _ _ k1 k2 k3
      ·rw[Xh]at k2 k3;exact hP _ _ _ _ _ _ _ _ k1 k2 k3 k4
     | call f args =>
      dsimp only at h;obtain⟨Φ,hc,h0⟩:=h;refine Qpv hw hev hc hst.rel hu fun out e up ρ' w' hphi h2 h3 hout=>?_
      have h:=h0 out up hphi;cases out with
      | ret d =>
       obtain⟨u,rfl,h1⟩:=hout;dsimp only at h⊢;refine Qdk hT l2 r _ _ _ K QP h (fun tl' hl' df' ρ w a k1 k2 k3=>?_) (fun d u tl' hl' df' ρ w a k1 k2 k3 k4=>?_) ρ' w' _ (hst.put o.dst h1 h2 h3)
       ·rw[Xh]at k2 k3;exact hK _ _ _ _ _ _ k1 k2 k3
       ·rw[Xh]at k2 k3;exact hP _ _ _ _ _ _ _ _ k1 k2 k3 k4
      | pan d =>
       obtain⟨u,rfl,h1⟩:=hout;dsimp only at h⊢;refine hP d u tl (Qw hl up) df ρ' w' a h rfl ?_ h1;rw[Qi5];exact⟨h2,hst.ex.trans h3,fun k=>Rp.grow h3.grow _ _ (hst.tmp k),hst.size,hst.df.grow h3.grow⟩
     | bit =>
      dsimp only at h;refine Qy6 hT hw hev hst.rel hu fun b u ρ' w' h1 h2 h3=>?_
      refine Qdk hT l2 r _ _ _ K QP (h b) (fun tl' hl' df' ρ w a k1 k2 k3=>?_) (fun d u tl' hl' df' ρ w a k1 k2 k3 k4=>?_) ρ' w' _ (hst.put o.dst h1 h2 h3)
      ·rw[Xh]at k2 k3;exact hK _ _ _ _ _ _ k1 k2 k3
      ·rw[Xh]at k2 k3;exact hP _ _ _ _ _ _ _ _ k1 k2 k3 k4
     | pan d =>
      dsimp only at h;refine Qsd hw hev hst.rel hu fun u ρ' w' h1 h2 h3=>?_
      exact hP d u tl hl df ρ' w' a h rfl ⟨h2,hst.ex.trans h3,fun k=>Rp.grow h3.grow _ _ (hst.tmp k),hst.size,hst.df.grow h3.grow⟩ h1
     | dfr f cap =>
      dsimp only at h;unfold Qe2;rw[Qbo hw hu,if_pos rfl];obtain⟨vs,h1,h2⟩:=Quw (P:=P) (ρ:=ρ) (w:=w) (v:=a.eval) hev (fun x hx=>Qjh hst.rel hu x hx);left;unfold Oper.wp;rw[h2,Oper.upon_defer];have hst2:InSt G ρ0 w0 H0 (Qr tl o.dst (.tuple [])).length ρ w ({a with defers:={target:= .fn (.func f) vs.toArray,args:= #[]}::a.defers}.put o.dst undef) (Wc (Qr tl o.dst (.tuple []))) (hOf hl) ((f,cap)::df):=by
       refine⟨hst.rel,hst.ex,?_,by rw[Act.put_size,Xh];exact hst.size,?_⟩
       ·exact Qnj (a:={a with defers:={target:= .fn (.func f) vs.toArray,args:= #[]}::a.defers}) hst.size (Grow.refl _ _) hst.tmp (by rw[Rp];exact⟨[],rfl,Wu.2 rfl⟩)
       ·have:DfM ρ w ({target:= .fn (.func f) vs.toArray,args:= #[]}::a.defers) ((f,cap)::df):=⟨vs,a.defers,rfl,h1,hst.df⟩;cases o.dst <;> simpa [Act.put]using this
      refine Qdk hT l2 r _ _ _ K QP h (fun tl' hl' df' ρ w a k1 k2 k3=>?_) (fun d u tl' hl' df' ρ w a k1 k2 k3 k4=>?_) ρ w _ hst2
      ·rw[Xh]at k2 k3;exact hK _ _ _ _ _ _ k1 k2 k3
      ·rw[Xh]at k2 k3;exact hP _ _ _ _ _ _ _ _ k1 k2 k3 k4
theorem InSt.ownT{ρ0 ρ:Rho}{w0 w:World}{H0:Nat ->HO}{a:Act}(hst:InSt G ρ0 w0 H0 tl.length ρ w a (Wc tl) (hOf hl) df)(t sz:Nat) :
  InSt G ρ0 w0 H0 tl.length ρ w a (Wc (tl.modify t (D.ownd hl.length))) (hOf (hl++ [.row sz []])) df:=by
 have h1:=hst.nameX (x:= .row sz []) rfl;refine⟨h1.rel,h1.ex,fun k=>?_,h1.size,h1.df⟩;have h2:=h1.tmp k;unfold Wc at h2⊢;rw[List.getD_eq_getElem?_getD]at h2⊢;rw[List.getElem?_modify];cases hk:tl[k]? with
 | none=>show Rp ρ w .junk _;rw[Rp];trivial
 | some x =>
  rw[hk]at h2;show Rp ρ w (if t=k then D.ownd hl.length x else x) _;split
  ·exact Wbq h2
  ·exact h2
theorem Qj6(hT:∀t,Zf P t (T t))(n t sz:Nat){id:Nat}{ops:Array Oper}
  (h:wpS P G T ops (ops.toList.take n) tl hl df (fun tl hl df=>wpS P G T ops (ops.toList.drop n) (tl.modify t (D.ownd hl.length)) (hl++ [.row sz []]) df (fun tl hl df=>Q .nrm tl hl df) (fun d tl hl df=>Q (.pan d) tl hl df)) (fun d tl hl df=>Q (.pan d) tl hl df)) :
  wpD P G M (.region id ops false) Q tl hl df:=fun ρ0 w0 H0 ρ w a hbs hst=>by
 refine wp_region_list ?_;have key:=Qdk (ops:=ops) hT (ρ0:=ρ0) (w0:=w0) (H0:=H0) (Q:=Qti G ρ0 w0 H0 tl.length Q) (ops.toList.drop n) (ops.toList.take n) tl hl df _ _ h (fun tl' hl' df' ρ w a k1 k2 k3=>?_) (fun d u tl' hl' df' ρ w a k1 k2 k3 k4=>⟨.pan d,tl',hl',df',ρ,k1,⟨u,rfl,k4⟩,k2,k3⟩) ρ w a hst
 ·rw[List.take_append_drop]at key;exact key
 ·have hlen:(tl'.modify t (D.ownd hl'.length)).length=tl.length:=by rw[List.length_modify];exact k2
  have k4:=InSt.ownT (tl:=tl') (by rw[k2];exact k3) t sz;refine Qcy hT _ _ _ _ _ _ k1 (fun tl2 hl2 df2 ρ w a k1 k2 k3=>⟨.nrm,tl2,hl2,df2,ρ,k1,rfl,by rw[k2];exact hlen,by rw[hlen]at k3;exact k3⟩)
   (fun d u tl2 hl2 df2 ρ w a k1 k2 k3 k4=>⟨.pan d,tl2,hl2,df2,ρ,k1,⟨u,rfl,k4⟩,by rw[k2];exact hlen,by rw[hlen]at k3;exact k3⟩) ρ w a (by rw[hlen];rw[k2]at k4;exact k4)
end
end Go.Proofs.YtgloldepdhgfaaaGreatDoor
namespace Go.Proofs.YtgloldepdhgfaaaGreatDoor
set_option linter.unusedSimpArgs false
set_option linter.unusedVariables false
set_option maxHeartbeats 10000000
set_option maxRecDepth 20000
open Go.RowKit
attribute [local simp] Qx Qm Qo Qp Wn Xg opD Wc Qr Qw Wi hOf Wj Xf Xd TK.isAgg TK.known Ws Wk Qz Qh D.ofV inB Qy Wp Xy Za Zg Xc Xw Zh IntKind.min IntKind.max IntKind.signed IntKind.bits Wm Xz
theorem Qs1(l:LV)(hl:l.length<=Ql):Sp 148 [.slice (l.map Wv) .any] [] (rt (.slice (l.map Wv) .any)):=by
 refine eN Tryz.func148 rfl (by decide) rfl rfl ?_;(refine sI fun K Z=>?_;(repeat rw[Qa];simp);refine Z ?_;clear Z K);refine Qc fun K1 hK1=>?_
 cases l with
 | nil =>
  (refine sR fun K hK=>?_;(repeat rw[Qa];simp));refine⟨hK _ _ _ ?_,hK _ _ _ ?_⟩
  ·refine pF rfl ?_;refine Qg (hK1 _ _ _ ?_);(refine sI fun K Z=>?_;(repeat rw[Qa];simp);refine Z ?_;clear Z K);(refine Qe ?_;(try simp only[zs]);refine Qk.ret rfl (.inl ?_);simp[zM])
  ·refine pT rfl ?_;(refine sI fun K Z=>?_;(repeat rw[Qa];simp);refine Z ?_;clear Z K);(refine Qe ?_;(try simp only[zs]);refine Qk.ret rfl (.inl ?_);simp[zM])
 | cons p r =>
  have hr:r.length+1<=Ql:=by simpa using hl
  (refine sI fun K Z=>?_;(repeat rw[Qa];simp);refine Z ?_;clear Z K);refine pF rfl ?_;refine Qg (hK1 _ _ _ ?_);(refine sI fun K Z=>?_;(repeat rw[Qa];simp[hr]);refine Z ?_;clear Z K);(refine Qe ?_;(try simp only[zs]);refine Qk.ret rfl (.inl ?_);simp[zM])
def OwnE(sz:Nat)(els:List D)(o:Out)(hc:List HO):Prop:=(els= []/\o.fgt= .ret (.slice [] .any)/\hc= [])\/(o= .ret (.own 0 els.length)/\hc= [.row sz els])
theorem Qs2(ls:List LV)(hl:ls.length<=Ql):Sp 147 [.slice (ls.map Qn) .any] [] (OwnE 1 (ls.map Qn)):=by
 refine eN Tryz.func147 rfl (by decide) rfl rfl ?_;(refine sI fun K Z=>?_;(repeat rw[Qa];simp);refine Z ?_;clear Z K);refine Qc fun K1 hK1=>?_
 cases ls with
 | nil =>
  (refine sR fun K hK=>?_;(repeat rw[Qa];simp));refine⟨hK _ _ _ ?_,hK _ _ _ ?_⟩
  ·refine pF rfl ?_;refine Qg (hK1 _ _ _ ?_);(refine sI fun K Z=>?_;(repeat rw[Qa];simp);refine Z ?_;clear Z K);refine Wb8 2 ?_;simp[D.fgt];(refine Qe ?_;(try simp only[zs]);refine Qk.ret rfl (.inr ⟨[],by decide,by simp,?_⟩);simp[zM]);exact .inl ⟨rfl,by simp[Out.fgt,D.fgt],rfl⟩
  ·refine pT rfl ?_;(refine sI fun K Z=>?_;(repeat rw[Qa];simp);refine Z ?_;clear Z K);(refine Qe ?_;(try simp only[zs]);refine Qk.ret rfl (.inr ⟨[],by decide,by simp,?_⟩);simp[zM]);exact .inl ⟨rfl,by simp[Out.fgt,D.fgt],rfl⟩
 | cons p r =>
  have hr:r.length+1<=Ql:=by simpa using hl
  (refine sI fun K Z=>?_;(repeat rw[Qa];simp);refine Z ?_;clear Z K);refine pF rfl ?_;refine Qg (hK1 _ _ _ ?_);refine Qc fun K hK=>?_
  refine Qj6 Wa 1 5 1 ?_;simp only[List.take_succ_cons,List.take_zero,List.drop_succ_cons,List.drop_zero];(try simp only[zr]);(repeat rw[Qa];simp[-Qx]);(try simp only[zs]);simp[D.ownd];(try simp only[zr]);(repeat rw[Qa];simp[hr]);(refine hK _ _ _ ?_;clear hK K);(refine Qe ?_;(try simp only[zs]);refine Qk.ret rfl (.inr ⟨[1],by decide,by simp,?_⟩);simp[zM]);exact .inr ⟨by simp,rfl⟩
def Qba(k:Int)(kid:Int):Bool:=decide (0<k) && decide (k<25) && decide (0<=kid) && decide ((Qep k).2.2.2.2=kid)
theorem Qgu(k kid:Int):Sp 163 [.int .i64 k, .int .i64 kid] [] (rt (.bool (Qba k kid))):=by
 refine eN Tryz.func163 rfl (by decide) rfl rfl ?_;(refine sI fun K Z=>?_;(repeat rw[Qa];simp);refine Z ?_;clear Z K);by_cases h1:0<k
 ·by_cases h2:k<25
  ·by_cases h3:0<=kid
   ·obtain⟨j,rfl⟩:∃j:Nat,k=j:=⟨k.toNat,by omega⟩;have hj:j<25:=by omega
    have hp:=Qz0 j hj;simp[Ws,TK.isAgg]at hp;have h0:0<j:=by omega
    have h2':(j:Int)<25:=h2;(refine sI fun K Z=>?_;(repeat rw[Qa];simp[h0,h2',h3,hj,hp]);refine Z ?_;clear Z K);(refine Qe ?_;(try simp only[zs]);refine Qk.ret rfl (.inl ?_);simp[zM]);simp[Qba,h0,h2',h3]
   ·(refine sI fun K Z=>?_;(repeat rw[Qa];simp[h1,h2,h3]);refine Z ?_;clear Z K);(refine Qe ?_;(try simp only[zs]);refine Qk.ret rfl (.inl ?_);simp[zM]);simp[Qba,h3]
  ·(refine sI fun K Z=>?_;(repeat rw[Qa];simp[h1,h2]);refine Z ?_;clear Z K);(refine Qe ?_;(try simp only[zs]);refine Qk.ret rfl (.inl ?_);simp[zM]);simp[Qba,h2]
 ·(refine sI fun K Z=>?_;(repeat rw[Qa];simp[h1]);refine Z ?_;clear Z K);(refine Qe ?_;(try simp only[zs]);refine Qk.ret rfl (.inl ?_);simp[zM]);simp[Qba,h1]
end Go.Proofs.YtgloldepdhgfaaaGreatDoor
