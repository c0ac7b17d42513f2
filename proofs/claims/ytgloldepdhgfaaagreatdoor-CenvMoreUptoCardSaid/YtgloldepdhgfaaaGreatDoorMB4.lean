/-
  MB4: the texts Hrp Lval Lsuc Ifd Dfo Ddp Hen Hk Hs Ho Hw Hx Hrn Hy Hz Ha Hb Hc Cva Cvb Ife Iff Ccm Ccw Ccr, one behind the other.
-/
import Derived.Test.YtgloldepdhgfaaaGreatDoorMB3
namespace Go.Proofs.YtgloldepdhgfaaaGreatDoor
set_option linter.unusedSimpArgs false
set_option linter.unusedVariables false
open Go.RowKit
theorem Wbd(i:Int):Qba 24 i=false:=by
 unfold Qba;rw[show(Qep 24).2.2.2.2= -1 from by kernel_rfl];simp;omega
theorem Wbe{d k i:Int}(h:Qba k i=false):Xl d k i=d:=by unfold Xl;rw[h];rfl
theorem Qxi{d k i:Int}(h:Qba k i=true)(hd:0<=d/\d<=1000000):Xl d k i=d+1:=by rw[Qc5 (by omega) (by omega),if_pos h]
theorem kid_at{t:T}{i:Nat}(h:i<t.ks.length):t.kid i=t.ks[i]:=by unfold T.kid;rw[List.getD_eq_getElem?_getD,List.getElem?_eq_getElem h];rfl
theorem Qu6{n:Int}{cs:List Int}{t:T}{sc:Int}(h:Qb1 n cs t sc=true){i:Nat}(hi:i<t.ks.length):Qb1 n cs (t.kid i) (Xl sc t.k (i:Int))=true:=by
 rw[kid_at hi];cases t with
 | mk k m a ls ks=>exact(Qhg.1 h).2 i hi
theorem Qif{n:Int}{cs:List Int}{t:T}{sc:Int}(h:Qb1 n cs t sc=true):Qh9 t.k=true/\Ql9 n sc cs t=true/\(t.ks.length:Int)=Qxk t.k t.a:=by
 cases t with
 | mk k m a ls ks=>exact Qgh.1 (Qhg.1 h).1
structure BodyOk (cs : List Int) (l : List C) : Prop where
 eq:cs=l.map C.lv
 lv:∀c,c∈l ->0<=c.lv/\c.lv<=8
 bo:∀c,c∈l ->c.has=true ->Qb1 c.lv cs c.bo 0=true
 low:∀c,c∈l ->c.bo.lowB 400=true
 deep:∀c,c∈l ->c.bo.deep<=1000000
end Go.Proofs.YtgloldepdhgfaaaGreatDoor
namespace Go.Proofs.YtgloldepdhgfaaaGreatDoor
set_option linter.unusedSimpArgs false
set_option linter.unusedVariables false
set_option maxHeartbeats 10000000
set_option maxRecDepth 20000
open Go.RowKit
attribute [local simp] Qx Qm Qo Qp Wn Xg opD Wc Qr Qw Wi hOf Wj Xf Xd TK.isAgg TK.known Ws Wk Qz Qh D.ofV inB Qy Wp Xy Za Zg Xc Xw Zh IntKind.min IntKind.max IntKind.signed IntKind.bits Wm Xz
def Qrd(p:Int×Int):Int×Int:=(p.1,p.2+1)
def Qfm(l:LV):LV:=if Wf l= [] then Wf [(0,1)] else Wf ((Wf l).map Qrd)
theorem mixL{N:LV}{k:Nat}(hk:k<N.length):((N.take k).map Qrd++N.drop k).set k (Qrd N[k])=(N.take (k+1)).map Qrd++N.drop (k+1):=by
 have hl:((N.take k).map Qrd).length=k:=by rw[List.length_map,List.length_take];omega
 rw[List.drop_eq_getElem_cons hk,List.take_succ_eq_append_getElem hk,List.set_append_right _ _ (by omega),hl,Nat.sub_self,List.set_cons_zero,List.map_append,List.append_assoc];rfl
theorem Wdv{N:LV}{k:Nat}(hk:k<N.length)(h:k<((N.take k).map Qrd++N.drop k).length):((N.take k).map Qrd++N.drop k)[k]=N[k]:=by
 rw[List.getElem_append_right (by rw[List.length_map,List.length_take];omega)];simp[List.length_take,Nat.min_eq_left (Nat.le_of_lt hk)]
theorem Qvq(l:LV)(hl:l.length<=Ql):Sp 199 [Qn l] [] (We8 (Qfm l)):=by
 have hsp:=Qi1 l hl;have hnf:=Qaw l;have hnl:=Qi0 l;have hs1:Wf l= [] ->Qfm l=Wf [(0,1)]:=fun h=>if_pos h
 have hs2:Wf l≠ [] ->Qfm l=Wf ((Wf l).map Qrd):=fun h=>if_neg h
 generalize Wf l=N at hsp hnf hnl hs1 hs2;have hsp2:=Qi1 (N.map Qrd) (by rw[List.length_map];unfold Ql;omega);have hnum:=Qy9 1;unfold Qn at hsp hsp2⊢;refine eN Tryz.func199 rfl (by decide) rfl rfl ?_;(refine sI fun K Z=>?_;(repeat rw[Qa];simp);refine Z ?_;clear Z K);(refine sR fun K hK=>?_;(repeat rw[Qa];simp));refine Wl.objs Qf [] true hsp ?_ ?_ (by decide) (by simp) (by simp[zA]) (by simp[zA]) (by simp[zA]) (by simp[zA])
 ·rintro o hc (⟨hn,rfl,rfl⟩ | ⟨rfl,rfl⟩)
  ·refine⟨false,?_⟩;simp[zU]
   (repeat rw[Qa];simp)
   (refine hK _ _ _ ?_;clear hK K);rw[hs1 hn];refine Qc fun K1 hK1=>?_
   (refine sI fun K Z=>?_;(repeat rw[Qa];simp);refine Z ?_;clear Z K);refine pT rfl ?_;(refine sR fun K hK=>?_;(repeat rw[Qa];simp));refine Wl.objs Qf [] true hnum ?_ ?_ (by decide) (by simp) (by simp[zA]) (by simp[zA]) (by simp[zA]) (by simp[zA])
   ·rintro o hc (⟨hn,rfl,rfl⟩ | ⟨rfl,rfl⟩)
    ·refine⟨false,?_⟩;simp[zU]
     (repeat rw[Qa];simp)
     (refine hK _ _ _ ?_;clear hK K);(refine Qe ?_;(try simp only[zs]);refine Qk.ret rfl (.inr ⟨[],by decide,by simp,?_⟩);simp[zM]);exact .inl ⟨hn,rfl,rfl⟩
    ·refine⟨false,?_⟩;simp[zU]
     (repeat rw[Qa];simp)
     (refine hK _ _ _ ?_;clear hK K);(refine Qe ?_;(try simp only[zs]);refine Qk.ret rfl (.inr ⟨[2],by decide,by simp,?_⟩);simp[zM]);exact .inr ⟨rfl,rfl⟩
   ·rintro o hc (⟨hn,rfl,rfl⟩ | ⟨rfl,rfl⟩) <;> simp
  ·refine⟨false,?_⟩;simp[zU]
   (repeat rw[Qa];simp)
   (refine hK _ _ _ ?_;clear hK K);refine Qc fun K1 hK1=>?_
   by_cases hn:N= []
   ·rw[hs1 hn];subst hn;(refine sI fun K Z=>?_;(repeat rw[Qa];simp);refine Z ?_;clear Z K);refine pT rfl ?_;(refine sR fun K hK=>?_;(repeat rw[Qa];simp));refine Wl.objs Qf [] true hnum ?_ ?_ (by decide) (by simp) (by simp[zA]) (by simp[zA]) (by simp[zA]) (by simp[zA])
    ·rintro o hc (⟨hn,rfl,rfl⟩ | ⟨rfl,rfl⟩)
     ·refine⟨false,?_⟩;simp[zU]
      (repeat rw[Qa];simp)
      (refine hK _ _ _ ?_;clear hK K);(refine Qe ?_;(try simp only[zs]);refine Qk.ret rfl (.inr ⟨[],by decide,by simp,?_⟩);simp[zM]);exact .inl ⟨hn,rfl,rfl⟩
     ·refine⟨false,?_⟩;simp[zU]
      (repeat rw[Qa];simp)
      (refine hK _ _ _ ?_;clear hK K);(refine Qe ?_;(try simp only[zs]);refine Qk.ret rfl (.inr ⟨[3],by decide,by simp,?_⟩);simp[zM]);exact .inr ⟨rfl,rfl⟩
    ·rintro o hc (⟨hn,rfl,rfl⟩ | ⟨rfl,rfl⟩) <;> simp
   ·rw[hs2 hn];have hn0:¬ (N.length:Int)=0:=by
     have:N.length≠0:=fun h=>hn (List.eq_nil_of_length_eq_zero h)
     omega
    (refine sI fun K Z=>?_;(repeat rw[Qa];simp[hn,hn0]);refine Z ?_;clear Z K);refine pF rfl ?_;refine Qg (hK1 _ _ _ ?_);clear hK1 K1;refine Qc fun K1 hK1=>?_
    (refine sI fun K Z=>?_;(repeat rw[Qa];simp);refine Z ?_;clear Z K);refine Qbv Wa Qf (ti:=3) (tk:=14) (tn:=13) (td:=15) (ts:=26) [3,14,15,16,17,18,19,20,21,22,23,24,25,26] (N.length) (fun k ys hl=>∃(x3 x14 x15 x16 x17 x18 x19 x20 x21 x22 x23 x24 x25 x26:D),ys= [x3,x14,x15,x16,x17,x18,x19,x20,x21,x22,x23,x24,x25,x26]/\hl= [.cells 53 [.own 2 N.length], .cells 53 [.slice [] .full], .row 2 (((N.take k).map Qrd++N.drop k).map Wv)]) rfl rfl rfl rfl rfl rfl rfl rfl rfl rfl rfl rfl (by simp) (by decide) rfl (by first | assumption | omega | (unfold Ql;omega)) rfl (by kernel_rfl) (by decide) ?_ ?_ ?_
    ·exact⟨_,_,_,_,_,_,_,_,_,_,_,_,_,_,rfl,by simp⟩
    ·rintro k ys hl A hk ⟨x3,x14,x15,x16,x17,x18,x19,x20,x21,x22,x23,x24,x25,x26,rfl,rfl⟩ hA hA2;simp only[Qh,List.set];have hset:=mixL hk;have hXl:((N.take k).map Qrd++N.drop k).length=N.length:=by rw[List.length_append,List.length_map,List.length_take,List.length_drop];omega
     have hkX:k<((N.take k).map Qrd++N.drop k).length:=by omega
     have hgt:=Wdv hk hkX;generalize (N.take k).map Qrd++N.drop k=X at hset hXl hkX hgt;have hb:=Qcu (hnf.ok N[k] (List.getElem_mem hk));rw[<- hgt]at hb hset;obtain⟨p,hp⟩:∃p,p=X[k]:=⟨_,rfl⟩;rw[<- hp]at hb hset;have hge:X[k]=p:=hp.symm;have hw1:IntKind.i64.wrap (p.2+1)=p.2+1:=Qbu (by omega) (by omega);(refine sI fun K Z=>?_;(repeat rw[Qa];simp);refine Z ?_;clear Z K);(refine Qi Wa ?_;(repeat rw[Qa];simp[hk,hkX,hge,hw1,Wv,hXl]));(refine hA _ _ (by kernel_rfl) ?_ rfl;simp only[Qb4,List.map_cons,List.map_nil]);exact⟨_,_,_,_,_,_,_,_,_,_,_,_,_,_,rfl,by rw[<- hset];simp[Qrd,Wv,reD]⟩
    ·rintro ys hl ⟨x3,x14,x15,x16,x17,x18,x19,x20,x21,x22,x23,x24,x25,x26,rfl,rfl⟩;simp only[Qh,List.set];refine hK1 _ _ _ ?_;clear hK1 K1;rw[List.take_length,List.drop_length,List.append_nil];have hfin:=hs2 hn;clear hs1 hs2;have hML:(N.map Qrd).length=N.length:=List.length_map ..;generalize N.map Qrd=M at hsp2 hfin hML;(refine Qei 2 rfl ?_;simp[D.frzs,D.frz,HO.frz,Qam,FK.isB,FK.isM,FK.isO,D.isLen,hML]);(refine sR fun K hK=>?_;(repeat rw[Qa];simp));refine Wl.objs Qf [] true hsp2 ?_ ?_ (by decide) (by simp) (by simp[zA]) (by simp[zA]) (by simp[zA]) (by simp[zA])
     ·rintro o hc (⟨hn,rfl,rfl⟩ | ⟨rfl,rfl⟩)
      ·refine⟨false,?_⟩;simp[zU]
       (repeat rw[Qa];simp)
       (refine hK _ _ _ ?_;clear hK K);(refine Qe ?_;(try simp only[zs]);refine Qk.ret rfl (.inr ⟨[],by decide,by simp,?_⟩);simp[zM]);rw[hfin];exact .inl ⟨hn,rfl,rfl⟩
      ·refine⟨false,?_⟩;simp[zU]
       (repeat rw[Qa];simp)
       (refine hK _ _ _ ?_;clear hK K);(refine Qe ?_;(try simp only[zs]);refine Qk.ret rfl (.inr ⟨[3],by decide,by simp,?_⟩);simp[zM]);rw[hfin];exact .inr ⟨rfl,rfl⟩
     ·rintro o hc (⟨hn,rfl,rfl⟩ | ⟨rfl,rfl⟩) <;> simp
 ·rintro o hc (⟨hn,rfl,rfl⟩ | ⟨rfl,rfl⟩) <;> simp
theorem Qx7(l:LV)(hl:l.length<=Ql):Sp 199 [Qn l] [] (rt (Qn (Qfm l))):=Wda (Qvq l hl)
theorem nf_01:NF [(0,4),(1,1)]:=⟨by decide,by decide,by decide⟩
theorem nf_n(n:Int)(h:0<n)(h2:n<=1048576):NF [(0,n)]:=⟨by simp,by simp[Qin];omega,by simp;omega⟩
theorem nf_v(n:Int)(h:0<n)(h2:n<=1048576):NF [(n,0)]:=⟨by simp,by simp[Qin];omega,by simp;omega⟩
theorem n1:Wf [(1,0)]= [(1,0)]:=Qiz (nf_v 1 (by omega) (by omega))
theorem n2:Wf [(2,0)]= [(2,0)]:=Qiz (nf_v 2 (by omega) (by omega))
theorem n3:Wf [(0,3)]= [(0,3)]:=Qiz (nf_n 3 (by omega) (by omega))
theorem nf_03:NF [(0,3),(1,0)]:=⟨by decide,by decide,by decide⟩
theorem n4:Wf [(1,0),(0,3)]= [(0,3),(1,0)]:=by
 rw[Wdq (b:= [(0,3),(1,0)]) (by unfold okV;decide) (by unfold okV;decide) (fun p hp=> .self (by simp at hp⊢;exact hp.symm)) (fun p hp=> .self (by simp at hp⊢;exact hp.symm))];exact Qiz nf_03
theorem n5:Qfm [(0,3),(1,0)]= [(0,4),(1,1)]:=by
 unfold Qfm;rw[Qiz nf_03,if_neg (by simp)];exact Qiz nf_01
theorem q1:Qxn [(1,1)] [(0,5),(1,2)]=true:=(Qoe (by unfold okV;decide) (by unfold okV;decide)).2 fun p hp=>by
 simp at hp;subst hp;exact .inr ⟨(1,2),by simp, .inr rfl,by decide⟩
theorem q2:Qxn [(0,5)] [(1,0)]=false:=by
 cases h:Qxn [(0,5)] [(1,0)]with
 | false=>rfl
 | true =>
  have:=(Qoe (by unfold okV;decide) (by unfold okV;decide)).1 h (0,5) (by simp);rcases this with ⟨-,h⟩ | ⟨q,hq, -,h⟩
  ·cases h
  ·simp at hq;subst hq;exact absurd h (by decide)
theorem q3:Qxn [] [(1,0)]=true:=(Qoe (by unfold okV;decide) (by unfold okV;decide)).2 fun p hp=>by cases hp
end Go.Proofs.YtgloldepdhgfaaaGreatDoor
namespace Go.Proofs.YtgloldepdhgfaaaGreatDoor
set_option linter.unusedSimpArgs false
set_option linter.unusedVariables false
open Go.RowKit
abbrev Rs(α:Type):=Except Int (α×Int)
def Rs.next{α β:Type}(r:Rs α)(k:α ->Int ->Rs β):Rs β:=match r with
 | .ok (x,f)=>k x f
 | .error e=> .error e
theorem Rs.next_ok{α β:Type}{x:α}{f:Int}{k:α ->Int ->Rs β}:Rs.next (.ok (x,f)) k=k x f:=rfl
theorem Rs.next_err{α β:Type}{e:Int}{k:α ->Int ->Rs β}:Rs.next (.error e) k= .error e:=rfl
theorem Rs.next_some{α β:Type}{r:Rs α}{k:α ->Int ->Rs β}{y:β}{g:Int}(h:r.next k= .ok (y,g)):∃x f,r= .ok (x,f)/\k x f= .ok (y,g):=by
 cases r with
 | error e=>cases h
 | ok v=>exact⟨v.1,v.2,rfl,h⟩
noncomputable def hdR (l : List C) (t : T) (f : Int) : Rs T := match Classical.epsilon (fun o => HdO l t f o) with
 | some v=> .ok v
 | none=> .error 5
noncomputable def cvR (l : List C) (a b : T) (f : Int) : Rs Bool := match Classical.epsilon (fun o => ∃ h, CR l h [a] [b] f o) with
 | some v=> .ok v
 | none=> .error 5
noncomputable def lqR (l : List C) (a b : T) (f : Int) : Rs Bool := match Classical.epsilon (fun o => ∃ h, LR l h a b f o) with
 | some v=> .ok v
 | none=> .error 5
theorem Qgp(l:List C)(t:T){f:Int}(h0:0<=f):(∃v,hdR l t f= .ok v/\HdO l t f (some v))\/(hdR l t f= .error 5/\HdO l t f none):=by
 have:=Classical.epsilon_spec (Qc1 l t f h0);unfold hdR;cases h:Classical.epsilon (fun o=>HdO l t f o)with
 | none=>rw[h]at this;exact .inr ⟨rfl,this⟩
 | some v=>rw[h]at this;exact .inl ⟨v,rfl,this⟩
theorem Qie(l:List C)(a b:T){f:Int}(h0:0<=f):(∃v h,cvR l a b f= .ok v/\CR l h [a] [b] f (some v))\/∃h,cvR l a b f= .error 5/\CR l h [a] [b] f none:=by
 have ht:∃o h,CR l h [a] [b] f o:=by obtain⟨h,o,H⟩:=Qop l f.toNat [a] [b] rfl f h0 (by omega);exact⟨o,h,H⟩
 have:=Classical.epsilon_spec ht;unfold cvR;cases h:Classical.epsilon (fun o=>∃h,CR l h [a] [b] f o)with
 | none=>rw[h]at this;obtain⟨q,this⟩:=this;exact .inr ⟨q,rfl,this⟩
 | some v=>rw[h]at this;obtain⟨q,this⟩:=this;exact .inl ⟨v,q,rfl,this⟩
theorem Qgj(l:List C)(a b:T){f:Int}(h0:0<=f):(∃v h,lqR l a b f= .ok v/\LR l h a b f (some v))\/∃h,lqR l a b f= .error 5/\LR l h a b f none:=by
 have ht:∃o h,LR l h a b f o:=by obtain⟨h,o,H⟩:=Wd3 l f.toNat a b f h0 (by omega);exact⟨o,h,H⟩
 have:=Classical.epsilon_spec ht;unfold lqR;cases h:Classical.epsilon (fun o=>∃h,LR l h a b f o)with
 | none=>rw[h]at this;obtain⟨q,this⟩:=this;exact .inr ⟨q,rfl,this⟩
 | some v=>rw[h]at this;obtain⟨q,this⟩:=this;exact .inl ⟨v,q,rfl,this⟩
def Qn0(t a:T)(f:Int):Rs T:=if((t.sd a.nsz 0:Nat):Int)<=f then .ok (t.put [a] 0,f - (t.sd a.nsz 0:Nat))else .error 5
noncomputable def lvR (l : List C) (t : T) (f : Int) : Rs LV := (hdR l t f).next fun x f => if x.k = 2 /\ x.ls.length = 1 then .ok (x.ls.getD 0 [], f) else .error 7
noncomputable def asR (l : List C) (t : T) (k e : Int) (f : Int) : Rs (T × T) := (hdR l t f).next fun x f => if x.k = k then .ok ((x.kid 0, x.kid 1), f) else .error e
noncomputable def oneR (l : List C) (a b : T) (e f : Int) : Rs Unit := (cvR l a b f).next fun is f => if is = true then .ok ((), f) else .error e
def Qir(l:LV):T:= .mk 2 0 0 [l] []
def Qju(n:Int):T:= .mk 22 n 0 [] []
def Qeh(n:Int):T:= .mk 1 n 0 [] []
def Qis(a b p:T):T :=
 ofT 4 [a,ofT 4 [ofT 4 [b,ofT 16 [a.lift 2 0 0,b.lift 2 1 0]],ofT 4 [ofT 4 [b.lift 1 0 0,ofT 6 [p.lift 3 0 0,ofT 6 [Qeh 1,Qeh 0]]],ofT 6 [p.lift 3 0 0,ofT 17 [Qeh 2,Qeh 1]]]]]
def Qjq(l:List C)(num:Int)(lv:List LV):T :=
 if h:0<=num/\num.toNat<l.length then if(l[num.toNat]'h.2).lv=lv.length then(l[num.toNat]'h.2).ty.levels lv 0 else Xa else Xa
section
variable (l : List C) (n : Int) (I : List T -> T -> Int -> Rs T) (K : List T -> T -> T -> Int -> Rs Unit)
noncomputable def sortR (c : List T) (t : T) (f : Int) : Rs LV := (I c t f).next fun s f => lvR l s f
noncomputable def motiveR (c : List T) (p t : T) (f : Int) : Rs Unit := (I c p f).next fun s f => (asR l s 4 8 f).next fun v f => (oneR l v.1 t 13 f).next fun _ f => (lvR l v.2 f).next fun _ f => .ok ((), f)
def Qfq(c:List T)(t:T)(f:Int):Rs T:= .ok ((c.getD (c.length - 1 - t.n.toNat) Xa).lift (t.n+1) 0 0,f)
def Qdo(t:T)(f:Int):Rs T:=if Xn (Qfm (t.ls.getD 0 [])) n=true then .ok (Qir (Qfm (t.ls.getD 0 [])),f)else .error 15
def Qew(t:T)(f:Int):Rs T:= .ok (Qjq l t.n t.ls,f)
noncomputable def formerR (c : List T) (t : T) (f : Int) : Rs T := (sortR l I c (t.kid 0) f).next fun i f => (sortR l I (c ++ [t.kid 0]) (t.kid 1) f).next fun j f => .ok (Qir (Wf [i, j].flatten), f)
noncomputable def lamR (c : List T) (t : T) (f : Int) : Rs T := (sortR l I c (t.kid 0) f).next fun _ f => (I (c ++ [t.kid 0]) (t.kid 1) f).next fun s f => .ok (ofT 4 [t.kid 0, s], f)
noncomputable def appR (c : List T) (t : T) (f : Int) : Rs T := (I c (t.kid 0) f).next fun s f => (asR l s 4 8 f).next fun v f => (K c (t.kid 1) v.1 f).next fun _ f => Qn0 v.2 (t.kid 1) f
noncomputable def letR (c : List T) (t : T) (f : Int) : Rs T := (sortR l I c (t.kid 0) f).next fun _ f => (K c (t.kid 1) (t.kid 0) f).next fun _ f => Qn0 (t.kid 2) (t.kid 1) f
noncomputable def withinR (c : List T) (t : T) (f : Int) : Rs T := (letR l I K c t f).next fun u f => I c u f
noncomputable def halfR (c : List T) (t : T) (f : Int) : Rs T := (I c (t.kid 0) f).next fun s f => (asR l s 12 9 f).next fun v f => if t.k = 14 then .ok (v.1, f) else Qn0 v.2 (ofT 14 [t.kid 0]) f
noncomputable def recR (c : List T) (t : T) (f : Int) : Rs T :=
 (sortR l I c (t.kid 0) f).next fun _ f=>(sortR l I (c++ [t.kid 0]) (t.kid 1) f).next fun _ f=>(K c (t.kid 4) (ofT 16 [t.kid 0,t.kid 1]) f).next fun _ f =>
 (motiveR l I c (t.kid 2) (ofT 16 [t.kid 0,t.kid 1]) f).next fun _ f=>(K c (t.kid 3) (Qis (t.kid 0) (t.kid 1) (t.kid 2)) f).next fun _ f=> .ok (ofT 6 [t.kid 2,t.kid 4],f)
noncomputable def idR (c : List T) (t : T) (f : Int) : Rs T := (sortR l I c (t.kid 0) f).next fun i f => (K c (t.kid 1) (t.kid 0) f).next fun _ f => (K c (t.kid 2) (t.kid 0) f).next fun _ f => .ok (Qir i, f)
noncomputable def pathR (c : List T) (t : T) (f : Int) : Rs T :=
 (sortR l I c (t.kid 0) f).next fun _ f=>(K c (t.kid 1) (t.kid 0) f).next fun _ f=>(K c (t.kid 4) (t.kid 0) f).next fun _ f=>(K c (t.kid 5) (ofT 19 [t.kid 0,t.kid 1,t.kid 4]) f).next fun _ f =>
 (I c (t.kid 2) f).next fun s f=>(asR l s 4 8 f).next fun v f=>(oneR l v.1 (t.kid 0) 13 f).next fun _ f=>(asR l v.2 4 8 f).next fun w f =>
 (oneR l w.1 (ofT 19 [(t.kid 0).lift 1 0 0,(t.kid 1).lift 1 0 0,Qeh 0]) 13 f).next fun _ f=>(lvR l w.2 f).next fun _ f =>
 (K c (t.kid 3) (ofT 6 [ofT 6 [t.kid 2,t.kid 1],ofT 20 []]) f).next fun _ f=> .ok (ofT 6 [ofT 6 [t.kid 2,t.kid 4],t.kid 5],f)
def Qid(k a:Int):T:= .mk 23 k a [] []
def brR(c:List T)(t:T):Nat ->Nat ->Int ->Rs Unit
 | 0,_,f=> .ok ((),f)
 | m+1,k,f=>(K c (t.kid (k+1)) (ofT 6 [t.kid 0,Qid k t.a]) f).next fun _ f=>brR c t m (k+1) f
noncomputable def casesR (c : List T) (t : T) (f : Int) : Rs T :=
 (K c (t.kid (t.a.toNat+1)) (Qju t.a) f).next fun _ f=>(motiveR l I c (t.kid 0) (Qju t.a) f).next fun _ f=>(brR K c t t.a.toNat 0 f).next fun _ f=> .ok (ofT 6 [t.kid 0,t.kid (t.a.toNat+1)],f)
noncomputable def ruleR (c : List T) (t : T) (f : Int) : Rs T :=
 if t.k=1 then Qfq c t f else if t.k=2 then Qdo n t f else if t.k=3 then Qew l t f else if t.k=4\/t.k=12\/t.k=16 then formerR l I c t f
 else if t.k=5 then lamR l I c t f else if t.k=6 then appR l I K c t f else if t.k=7 then withinR l I K c t f else if t.k=14\/t.k=15 then halfR l I c t f
 else if t.k=18 then recR l I K c t f else if t.k=19 then idR l I K c t f else if t.k=21 then pathR l I K c t f else if t.k=22 then .ok (Qir [],f)
 else if t.k=23 then .ok (Qju t.a,f)else if t.k=24 then casesR l I K c t f else .error 14
noncomputable def askR (c : List T) (t y : T) (f : Int) : Rs Unit :=
 if t.k=5 then(asR l y 4 8 f).next fun v f=>(sortR l I c (t.kid 0) f).next fun _ f=>(oneR l (t.kid 0) v.1 13 f).next fun _ f=>K (c++ [t.kid 0]) (t.kid 1) v.2 f
 else if t.k=13 then(asR l y 12 9 f).next fun v f=>(K c (t.kid 0) v.1 f).next fun _ f=>(Qn0 v.2 (t.kid 0) f).next fun z f=>K c (t.kid 1) z f
 else if t.k=17 then(asR l y 16 10 f).next fun v f=>(K c (t.kid 0) v.1 f).next fun _ f=>(Qn0 v.2 (t.kid 0) f).next fun z f=>K c (t.kid 1) (ofT 4 [z,ofT 16 [v.1.lift 1 0 0,v.2.lift 1 1 0]]) f
 else if t.k=20 then(hdR l y f).next fun x f=>if x.k=19 then oneR l (x.kid 1) (x.kid 2) 11 f else .error 11
 else if t.k=7 then(letR l I K c t f).next fun u f=>K c u y f
 else(I c t f).next fun s f=>(lqR l s y f).next fun is f=>if is=true then .ok ((),f)else .error 13
end
noncomputable def askT (l : List C) (n : Int) : Nat -> (List T -> T -> Int -> Rs T) × (List T -> T -> T -> Int -> Rs Unit)
 | 0=>(fun _ _ _=> .error 5,fun _ _ _ _=> .error 5)
 | g+1=>(fun c t f=>if f<1 then .error 5 else ruleR l n (askT l n g).1 (askT l n g).2 c t (f - 1),fun c t y f=>if f<1 then .error 5 else askR l (askT l n g).1 (askT l n g).2 c t y (f - 1))
noncomputable def infT (l : List C) (n : Int) (g : Nat) := (askT l n g).1
noncomputable def chkT (l : List C) (n : Int) (g : Nat) := (askT l n g).2
theorem Qeq(l:List C)(n:Int)(g:Nat)(c:List T)(t:T)(f:Int):infT l n (g+1) c t f=if f<1 then .error 5 else ruleR l n (infT l n g) (chkT l n g) c t (f - 1):=rfl
theorem Qf6(l:List C)(n:Int)(g:Nat)(c:List T)(t y:T)(f:Int):chkT l n (g+1) c t y f=if f<1 then .error 5 else askR l (infT l n g) (chkT l n g) c t y (f - 1):=rfl
end Go.Proofs.YtgloldepdhgfaaaGreatDoor
namespace Go.Proofs.YtgloldepdhgfaaaGreatDoor
set_option linter.unusedSimpArgs false
set_option linter.unusedVariables false
open Go.RowKit
theorem Wb9{P:Program}{G:Nat ->Option D}{M:Nat}{Q:DQ}{tl:List D}{hl:List HO}{df:Df}{c:Code}(i:Nat){ty:TypeId}{ds:List D}(hi:hOf hl i= .cells ty ds)(h:wpD P G M c Q tl (hl.set i (.cells ty (D.fgts ds))) df):wpD P G M c Q tl hl df:=fun ρ0 w0 H0 ρ w a hbs hst=>by
 have hlt:i<hl.length:=by
  rcases Nat.lt_or_ge i hl.length with h | h
  ·exact h
  ·unfold hOf at hi;rw[List.getD_eq_getElem?_getD,List.getElem?_eq_none h]at hi;cases hi
 refine h ρ0 w0 H0 ρ w a hbs ?_;have hH:∀k,hOf (hl.set i (.cells ty (D.fgts ds))) k=if k=i then .cells ty (D.fgts ds)else hOf hl k:=fun k=>by
  unfold hOf;rw[List.getD_eq_getElem?_getD,List.getD_eq_getElem?_getD];by_cases hk:k=i
  ·subst hk;rw[if_pos rfl,List.getElem?_set_self hlt];rfl
  ·rw[if_neg hk,List.getElem?_set_ne (fun e=>hk e.symm)]
 have hlv:∀k,(hOf (hl.set i (.cells ty (D.fgts ds))) k).live=(hOf hl k).live:=fun k=>by
  rw[hH k];split
  ·rename_i hk;subst hk;rw[hi];rfl
  ·rfl
 have hL:∀b,Qmc ρ (hOf (hl.set i (.cells ty (D.fgts ds)))) b ->Qmc ρ (hOf hl) b:=fun b ⟨k,f,q1,q2⟩=>⟨k,f,q1,by rw[<- hlv k];exact q2⟩
 have hR:=hst.rel;refine⟨⟨fun k hk=>hR.free k ?_,hR.fresh,fun k b f hk=>?_,fun k l b f g e1 e2 e3 e4=>hR.inj k l b f g e1 e2 (by rw[<- hlv k];exact e3) (by rw[<- hlv l];exact e4),hR.glob⟩,⟨hst.ex.grow,hst.ex.frame,fun b hb hlt=>hst.ex.live b (hL b hb) hlt⟩,hst.tmp,hst.size,hst.df⟩
 ·rw[hH k]at hk;split at hk
  ·cases hk
  ·exact hk
 ·rw[hH k];have h2:=hR.obj k b f hk;split
  ·rename_i hki;subst hki;rw[hi]at h2;obtain⟨c0,vs,q1,q2⟩:=h2;exact⟨c0,vs,q1,Qjc _ _ q2⟩
  ·exact h2
mutual
theorem D.fgt_of_deep:∀d:D,d.deep.fgt=d.deep
 | .agg ds=>by rw[D.deep,D.fgt,D.fgts_of_deeps ds]
 | .tuple ds=>by rw[D.deep,D.fgt,D.fgts_of_deeps ds]
 | .iface t d=>by rw[D.deep,D.fgt,D.fgt_of_deep d]
 | .slice els _=>by rw[D.deep,D.fgt]
 | .fn f a b=>by simp[D.deep,D.fgt]
 | .ref d=>by simp[D.deep,D.fgt]
 | .mapc ks vs=>by simp[D.deep,D.fgt]
 | .junk | .int k n | .bool b | .str s | .nilp | .nilf | .nili | .nilm | .box i o | .map i | .own i n | .ebox i sz k o=>by simp[D.deep,D.fgt]
theorem D.fgts_of_deeps:∀ds:List D,D.fgts (D.deeps ds)=D.deeps ds
 | []=>by rw[D.deeps,D.fgts]
 | d::r=>by rw[D.deeps,D.fgts,D.fgt_of_deep d,D.fgts_of_deeps r]
end
mutual
theorem D.deep_of_fgt:∀d:D,d.fgt.deep=d.deep
 | .agg ds=>by rw[D.fgt,D.deep,D.deep,D.deeps_of_fgts ds]
 | .tuple ds=>by rw[D.fgt,D.deep,D.deep,D.deeps_of_fgts ds]
 | .iface t d=>by rw[D.fgt,D.deep,D.deep,D.deep_of_fgt d]
 | .slice els _=>by rw[D.fgt,D.deep,D.deep]
 | .fn f a b=>by simp[D.deep,D.fgt]
 | .ref d=>by simp[D.deep,D.fgt]
 | .mapc ks vs=>by simp[D.deep,D.fgt]
 | .junk | .int k n | .bool b | .str s | .nilp | .nilf | .nili | .nilm | .box i o | .map i | .own i n | .ebox i sz k o=>by simp[D.deep,D.fgt]
theorem D.deeps_of_fgts:∀ds:List D,D.deeps (D.fgts ds)=D.deeps ds
 | []=>by rw[D.fgts]
 | d::r=>by rw[D.fgts,D.deeps,D.deeps,D.deep_of_fgt d,D.deeps_of_fgts r]
end
def Out.deep:Out ->Out
 | .ret d=> .ret d.deep
 | .pan d=> .pan d.deep
theorem Qmb.deep{ρ:Rho}{w:World}{o:Out}{e:Ending}(h:Qmb ρ w o e):Qmb ρ w o.deep e:=by
 cases o with
 | ret d=>obtain⟨u,h1,h2⟩:=h;exact⟨u,h1,Qhl _ _ h2⟩
 | pan d=>obtain⟨u,h1,h2⟩:=h;exact⟨u,h1,Qhl _ _ h2⟩
theorem Out.deep_ret{o:Out}{e:D}(h:o.fgt= .ret e):o.deep.fgt= .ret e.deep:=by
 cases o with
 | ret x =>
  have h':x.fgt=e:=by simpa [Out.fgt]using h
  subst h';show Out.ret _=_;rw[D.fgt_of_deep,D.deep_of_fgt]
 | pan x=>simp[Out.fgt]at h
theorem Spec.deepR{P:Program}{G:Nat ->Option D}{f:FuncId}{args:List D}{objs:List HO}{e d:D}(h:Spec P G f args objs (fun o _=>o.fgt= .ret e))(he:e.deep=d):Spec P G f args objs (fun o _=>o.fgt= .ret d):=fun ρ w vs hR hv=>by
 obtain⟨h1,h2⟩:=h ρ w vs hR hv;refine⟨h1,h2.mono ?_⟩;rintro e' w' ⟨ρ',out,hc,hp,hm,hr,hx⟩;exact⟨ρ',out.deep,hc,(Out.deep_ret hp).trans (by rw[he]),hm.deep,hr,hx⟩
theorem Qde.deepA{P:Program}{G:Nat ->Option D}{f:FuncId}{args':List D}{hh:Nat ->HO}{out:Out}{rd:List Nat}{up:List (Nat×HO)}(h:Qde P G f (D.deeps args') hh out rd up):Qde P G f args' hh out rd up :=
 fun ρ w H vs hR hx hvs=>h ρ w H vs hR hx (Qdj _ _ hvs)
theorem Wl.pureD{P:Program}{G:Nat ->Option D}(hG:∀g d,G g=some d ->d.pure=true){f:FuncId}{args args':List D}{out:Out}(h:Spec P G f args [] (fun o _=>o.fgt=out)){hl:List HO}{K:Out ->List HO ->Prop}(hK:K out hl)(ha:D.fgts (D.deeps args')=args)(hp:D.pures args=true)(ho:out.pure=true):Wl P G f args' hl K :=
 ⟨fun o up=>o=out/\up= [],(Qde.deepA (Qde.pure hG h ha hp ho _)).toR,fun o up ⟨h1,h2⟩=>by subst h1;subst h2;exact hK⟩
theorem Xp.pureD{P:Program}{G:Nat ->Option D}(hG:∀g d,G g=some d ->d.pure=true){f:FuncId}{args args':List D}{out:Out}(h:Spec P G f args [] (fun o _=>o.fgt=out)){hl:List HO}{K:Out ->List Nat ->List (Nat×HO) ->Prop}(hK:K out [] [])(ha:D.fgts (D.deeps args')=args)(hp:D.pures args=true)(ho:out.pure=true):Xp P G f args' hl K :=
 ⟨out, [], [],Qde.deepA (Qde.pure hG h ha hp ho _),hK⟩
theorem Wb6{P:Program}{G:Nat ->Option D}{M:Nat}{Q:DX ->List D ->List HO ->Df ->Prop}{tl:List D}{hl:List HO}{df:Df}{α:Type}{x y:Code}(W:List Nat)(ds:α ->List D)(hl1:α ->List HO)(Pre:α ->Prop)(h1:∀a,Pre a ->wpD P G M y Q (Qh tl W (ds a)) (hl1 a) df)
  (h2:∀K:List D ->List HO ->Df ->Prop,(∀a tl',Pre a ->leT (Qh tl W (ds a)) tl' ->K tl' (hl1 a) df) ->wpD P G M x (Wk K Q) tl hl df):wpD P G M (.seq x y) Q tl hl df :=
 Qc fun K hK=>h2 K fun a tl' hp h=>hK _ _ _ (Qcb h (h1 a hp))
@[simp high] theorem encP_deep (p:Int×Int):(Wv p).deep=Wv p:=rfl
theorem Qp0(l:LV):D.deeps (l.map Wv)=l.map Wv:=by rw[D.deeps_map,List.map_map];rfl
@[simp high] theorem mapP_deep' (l:LV):D.deeps (l.map Wv)=l.map Wv:=Qp0 l
@[simp high] theorem Was (l:LV):(Qn l).deep=Qn l:=by
 unfold Qn;simp only[D.deep,D.deeps,Qp0]
@[simp high] theorem Qp1 (l:List LV):D.deeps (l.map Qn)=l.map Qn:=by
 rw[D.deeps_map,List.map_map];exact List.map_congr_left fun x _=>Was x
@[simp high] theorem Qlb (t:T):(Qj t).deep=Qj t:=by
 induction t using T.ind with
 | h k n a ls ks ih =>
  rw[Qb];have:D.deeps (ks.map Qj)=ks.map Qj:=by
   rw[D.deeps_map,List.map_map];exact List.map_congr_left fun x hx=>ih x hx
  simp only[D.deep,D.deeps,Qp1,T.ks_mk,this]
@[simp high] theorem Qks (l:List T):D.deeps (l.map Qj)=l.map Qj:=by
 rw[D.deeps_map,List.map_map];exact List.map_congr_left fun x _=>Qlb x
@[simp high] theorem mapI_deep (l:List Int):D.deeps (l.map (.int .i64))=l.map (.int .i64):=by
 rw[D.deeps_map,List.map_map];rfl
def Qbj(c:C):D:= .agg [.int .i64 c.lv, .int .i64 c.ty.k, .int .i64 c.ty.n, .int .i64 c.ty.a, .slice (c.ty.ls.map Qn) .any, .slice (c.ty.ks.map Qj) .any, .bool c.has, .int .i64 c.bo.k, .int .i64 c.bo.n, .int .i64 c.bo.a, .slice (c.bo.ls.map Qn) .any, .slice (c.bo.ks.map Qj) .any]
def Cs(l:List C):D:= .slice (l.map Qbj) .any
def Qhn:C:=⟨0,Xa,false,Xa⟩
@[simp high] theorem Qdz (c:C):(Qbj c).pure=true:=by simp[Qbj,D.pure,D.pures,Cp.free]
@[simp high] theorem encC_fgt (c:C):(Qbj c).fgt=Qbj c:=by simp[Qbj,D.fgt,D.fgts]
@[simp high] theorem Wat (c:C):(Qbj c).size=12:=rfl
@[simp high] theorem Qgs (c:C):(Qbj c).cells= [.int .i64 c.lv, .int .i64 c.ty.k, .int .i64 c.ty.n, .int .i64 c.ty.a, .slice (c.ty.ls.map Qn) .any, .slice (c.ty.ks.map Qj) .any, .bool c.has, .int .i64 c.bo.k, .int .i64 c.bo.n, .int .i64 c.bo.a, .slice (c.bo.ls.map Qn) .any, .slice (c.bo.ks.map Qj) .any]:=rfl
@[simp high] theorem encC_frz (bx:FK) (i:Nat) (x:D) (c:C):D.frz bx i x (Qbj c)=Qbj c:=D.frz_pure bx i x _ (Qdz c)
@[simp high] theorem mapC_frz (bx:FK) (i:Nat) (x:D) (l:List C):D.frzs bx i x (l.map Qbj)=l.map Qbj:=D.frzs_pure bx i x _ (by simp[D.pures_map])
@[simp high] theorem encC_low (m:Nat) (c:C):(Qbj c).low m=true:=D.low_pure m _ (Qdz c)
@[simp high] theorem mapC_low (m:Nat) (l:List C):D.lows m (l.map Qbj)=true:=D.lows_pure m _ (by simp[D.pures_map])
@[simp high] theorem encC_okN (p:Nat ->Bool) (c:C):(Qbj c).okN p=true:=D.okN_pure p _ (Qdz c)
@[simp high] theorem encC_ren (σ:Nat ->Nat) (c:C):D.ren σ (Qbj c)=Qbj c:=D.ren_pure σ _ (Qdz c)
@[simp high] theorem mapC_okN (p:Nat ->Bool) (l:List C):D.okNs p (l.map Qbj)=true:=D.okNs_pure p _ (by simp[D.pures_map])
@[simp high] theorem mapC_ren (σ:Nat ->Nat) (l:List C):D.rens σ (l.map Qbj)=l.map Qbj:=D.rens_pure σ _ (by simp[D.pures_map])
@[simp high] theorem Qms (l:List C):D.pures (l.map Qbj)=true:=by simp[D.pures_map]
@[simp high] theorem Wav (c:C):(Qbj c).deep=Qbj c:=by simp only[Qbj,D.deep,D.deeps,Qp1,Qks]
@[simp high] theorem Qzi (l:List C):D.deeps (l.map Qbj)=l.map Qbj:=by
 rw[D.deeps_map,List.map_map];exact List.map_congr_left fun x _=>Wav x
theorem encZ:Qj Xa= .agg [.int .i64 0, .int .i64 0, .int .i64 0, .slice [] .any, .slice [] .any]:=Qb _
def Qjt(t:T)(n:Int):T:=if n<0 then Xa else t.kid n.toNat
theorem Qj1(t:T)(n:Nat):Qjt t (n:Int)=t.kid n:=by unfold Qjt;rw[if_neg (by omega)];rfl
theorem Qd9(k n a:Int)(ls:List LV)(ks:List T):Qj (.mk k n a ls ks)= .agg [.int .i64 k, .int .i64 n, .int .i64 a, .slice (ls.map Qn) .any, .slice (ks.map Qj) .any]:=Qb _
def headD(left:Int)(l:List C)(once done:Bool):HO:= .cells 93 [.int .i64 left,Cs l, .bool once, .bool done, .map 1]
def Qar:D:= .iface 129 (.agg [])
mutual
def T.sdw(many:Int):T ->Int ->Int
 | .mk k n _ _ ks,b=>if k=1/\n=b then many else T.sdws many k ks 0 b 1
def T.sdws(many k:Int):List T ->Nat ->Int ->Int ->Int
 | [],_,_,s=>s
 | t::r,i,b,s=>T.sdws many k r (i+1) b (IntKind.i64.wrap (s+T.sdw many t (Xl b k i)))
end
theorem Qo3(a b:Int):IntKind.i64.wrap (IntKind.i64.wrap a+IntKind.i64.wrap b)=IntKind.i64.wrap (a+b):=by
 simp only[IntKind.wrap_i64];omega
mutual
theorem Qnl:∀t:T,t.sz=IntKind.i64.wrap (t.nsz:Int)
 | .mk k n a ls ks=>by
  rw[T.sz,T.nsz,Qnk ks 1 1 (by rfl)]
theorem Qnk:∀(ks:List T) (s:Int) (m:Nat),s=IntKind.i64.wrap (m:Int) ->T.szs ks s=IntKind.i64.wrap ((m+T.nszs ks:Nat):Int)
 | [],s,m,h=>by rw[T.szs,T.nszs,h];rfl
 | t::r,s,m,h=>by
  rw[T.szs,T.nszs,Qnk r _ (m+t.nsz) (by
   rw[h,Qnl t,Qo3,Int.natCast_add])]
  congr 2
  omega
end
mutual
theorem Qnt(many:Nat):∀(t:T) (b:Int),T.sdw (IntKind.i64.wrap (many:Int)) t b=IntKind.i64.wrap ((t.sd many b:Nat):Int)
 | .mk k n a ls ks,b=>by
  rw[T.sdw,T.sd];split
  ·rfl
  ·rw[Qpk many k ks 0 b 1 1 (by rfl)]
theorem Qpk(many:Nat)(k:Int):∀(ks:List T) (i:Nat) (b s:Int) (m:Nat),s=IntKind.i64.wrap (m:Int) ->T.sdws (IntKind.i64.wrap (many:Int)) k ks i b s=IntKind.i64.wrap ((m+T.sds many k ks i b:Nat):Int)
 | [],i,b,s,m,h=>by rw[T.sdws,T.sds,h];rfl
 | t::r,i,b,s,m,h=>by
  rw[T.sdws,T.sds,Qpk many k r (i+1) b _ (m+t.sd many (Xl b k i)) (by
   rw[h,Qnt many t,Qo3,Int.natCast_add])]
  congr 2
  omega
end
end Go.Proofs.YtgloldepdhgfaaaGreatDoor
namespace Go.Proofs.YtgloldepdhgfaaaGreatDoor
set_option linter.unusedSimpArgs false
set_option linter.unusedVariables false
set_option maxHeartbeats 10000000
set_option maxRecDepth 20000
open Go.RowKit
attribute [local simp] Qx Qm Qo Qp Wn Xg opD Wc Qr Qw Wi hOf Wj Xf Xd TK.isAgg TK.known Ws Wk Qz Qh D.ofV inB Qy Wp Xy Za Zg Xc Xw Zh IntKind.min IntKind.max IntKind.signed IntKind.bits Wm Xz
theorem Quj(t:T)(n:Int):Sp 97 [Qj t, .int .i64 n] [] (rt (Qj (Qjt t n))):=by
 obtain⟨r,hr⟩:∃r,r=Qjt t n:=⟨_,rfl⟩;rw[<- hr];rw[Qb t];refine eN Tryz.func97 rfl (by decide) rfl rfl ?_;(refine sI fun K Z=>?_;(repeat rw[Qa];simp);refine Z ?_;clear Z K);refine Qc fun K1 hK1=>?_
 by_cases h1:n<0
 ·rw[show Qjt t n=Xa from by unfold Qjt;rw[if_pos h1]]at hr;subst hr;(refine sI fun K Z=>?_;(repeat rw[Qa];simp[h1]);refine Z ?_;clear Z K);refine pT rfl ?_;(refine sI fun K Z=>?_;(repeat rw[Qa];simp);refine Z ?_;clear Z K);(refine Qe ?_;(try simp only[zs]);refine Qk.ret rfl (.inl ?_);simp[zM]);exact encZ.symm
 ·obtain⟨j,rfl⟩:∃j:Nat,n=j:=⟨n.toNat,by omega⟩;rw[Qj1]at hr;unfold T.kid at hr;rw[List.getD_eq_getElem?_getD]at hr;by_cases h2:j<t.ks.length
  ·have h2':(j:Int)<t.ks.length:=by omega
   have h2n:¬ t.ks.length<=j:=by omega
   rw[List.getElem?_eq_getElem h2,Option.getD_some]at hr;have hEr:=Qb r;have hx:t.ks[j]=r:=hr.symm;(refine sI fun K Z=>?_;(repeat rw[Qa];simp[h1,h2,h2',h2n]);refine Z ?_;clear Z K);refine pF rfl ?_;refine Qg (hK1 _ _ _ ?_);(refine sI fun K Z=>?_;(repeat rw[Qa];simp[h1,h2,h2',hx,hEr]);refine Z ?_;clear Z K);(refine Qe ?_;(try simp only[zs]);refine Qk.ret rfl (.inl ?_);simp[zM]);exact hEr.symm
  ·have h2':¬ (j:Int)<t.ks.length:=by omega
   have h2n:t.ks.length<=j:=by omega
   rw[List.getElem?_eq_none h2n,Option.getD_none]at hr;subst hr;(refine sI fun K Z=>?_;(repeat rw[Qa];simp[h1,h2,h2',h2n]);refine Z ?_;clear Z K);refine pT rfl ?_;(refine sI fun K Z=>?_;(repeat rw[Qa];simp);refine Z ?_;clear Z K);(refine Qe ?_;(try simp only[zs]);refine Qk.ret rfl (.inl ?_);simp[zM]);exact encZ.symm
theorem Qfd(k:Int)(ks:List T):Sp 145 [.int .i64 k, .slice (ks.map Qj) .any] [] (rt (Qj (ofT k ks))):=by
 unfold ofT;rw[Qd9];refine eN Tryz.func145 rfl (by decide) rfl rfl ?_;(refine sI fun K Z=>?_;(repeat rw[Qa];simp);refine Z ?_;clear Z K);(refine sI fun K Z=>?_;(repeat rw[Qa];simp);refine Z ?_;clear Z K);(refine Qe ?_;(try simp only[zs]);refine Qk.ret rfl (.inl ?_);simp[zM])
def wkT(ks:List T)(x:T)(i j:Nat):List T:=Qg2 ks x i j
theorem Wcf(ks:List T)(x:T)(i j:Nat):wkT ks x i (j+1)=wkT ks x i j++ [if j=i then x else ks.getD j Xa]:=by
 unfold wkT Qg2;rw[List.range_succ,List.map_append];rfl
theorem wkT_len(ks:List T)(x:T)(i j:Nat):(wkT ks x i j).length=j:=Qcz ks x i j
theorem Qxw(t x:T)(i many:Nat)(hm:many<=Ql):Sp 96 [Qj t,Qj x, .int .i64 i, .int .i64 many] [] (rt (Qj (t.withT x i many))):=by
 obtain⟨kk,nn,aa,ls,ks⟩:=t;have hT:(T.mk kk nn aa ls ks).withT x i many= .mk kk nn aa ls (wkT ks x i many):=rfl;rw[hT];have hEx:=Qb x;have hk:=fun j:Nat=>Quj (.mk kk nn aa ls ks) j
 simp only[Qj1]at hk;unfold T.kid at hk;simp only[T.ks_mk]at hk;simp only[Qd9]at hk⊢;rw[hEx];refine eN Tryz.func96 rfl (by decide) rfl rfl ?_;(refine sI fun K Z=>?_;(repeat rw[Qa];simp);refine Z ?_;clear Z K);(refine sI fun K Z=>?_;(repeat rw[Qa];simp);refine Z ?_;clear Z K);refine Qnb 3 4 (ty:=27) (ds:= [.int .i64 kk, .int .i64 nn, .int .i64 aa, .slice (ls.map Qn) .any, .slice [] .full]) rfl ?_;simp[D.tokd];refine Qc fun K1 hK1=>?_
 (refine sI fun K Z=>?_;(repeat rw[Qa];simp);refine Z ?_;clear Z K);refine Xm Wa Qf (ti:=3) (tk:=21) (tn:=20) (td:=22) (ts:=41) [10,21,22,23,24,25,26,27,28,29,30,31,32,33,34,35,36,37,38,39,40,41] [] (many) (fun k ys hl=>ys= []/\hl= [.cells 27 [.int .i64 kk, .int .i64 nn, .int .i64 aa, .slice (ls.map Qn) .any, .slice (ks.map Qj) .any], .cells 27 [.int .i64 x.k, .int .i64 x.n, .int .i64 x.a, .slice (x.ls.map Qn) .any, .slice (x.ks.map Qj) .any], .cells 27 [.int .i64 0, .int .i64 0, .int .i64 0, .slice [] .full, .slice [] .full], .cells 27 [.int .i64 kk, .int .i64 nn, .int .i64 aa, .slice (ls.map Qn) .any, .slice ((wkT ks x i k).map Qj) (.tok 4)], .tok]) rfl rfl rfl rfl rfl rfl rfl rfl rfl rfl rfl rfl (by simp) (by decide) rfl (by first | assumption | omega | (unfold Ql;omega)) rfl (by kernel_rfl) (by decide) ?_ ?_ ?_
 ·exact⟨rfl,rfl⟩
 ·rintro j ys hl A hj ⟨rfl,rfl⟩ hA hA2;simp only[Qh,List.set,List.map_cons,List.map_nil,List.cons_append,List.nil_append];have hsn:=Wcf ks x i j;have hln:=wkT_len ks x i j;have hel:(wkT ks x i j).length+1<=Ql:=by omega
  have hkj:=hk j;generalize ks.getD j Xa=y at hsn hkj;generalize wkT ks x i j=es at hsn hln hel⊢;(refine sI fun K Z=>?_;(repeat rw[Qa];simp);refine Z ?_;clear Z K);refine Qc fun K2 hK2=>?_
  by_cases hji:j=i
  ·subst hji;rw[if_pos rfl]at hsn;(refine sI fun K Z=>?_;(repeat rw[Qa];simp);refine Z ?_;clear Z K);refine pT rfl ?_;(refine sI fun K Z=>?_;(repeat rw[Qa];simp[hel]);refine Z ?_;clear Z K);refine Qad ?_;(refine hA2 ([0,1,2,3,5]) _ _ _ (LeT.refl _) (by decide) (by simp) (by simp[zM,Qh]) ?_ rfl;simp[zM]);rw[hsn,<- hEx,show es.map Qj++ [Qj x]=(es++ [x]).map Qj by simp,Qh5]
  ·have hji':¬ (j:Int)=i:=by omega
   rw[if_neg hji]at hsn;(refine sI fun K Z=>?_;(repeat rw[Qa];simp[hji,hji']);refine Z ?_;clear Z K);refine pF rfl ?_;refine Qg (hK2 _ _ _ ?_);(refine dR fun KT hKT=>?_;(repeat rw[Qd];simp[hel]));refine cYp (hkj) ?_;(try simp only[zq]);(repeat rw[Qd];simp[hel]);(refine hKT _ _ _ _ (by kernel_rfl) ?_;clear hKT KT);(refine hA2 ([0,1,2,3,5]) _ _ _ (LeT.refl _) (by decide) (by simp) (by simp[zM,Qh]) ?_ rfl;simp[zM]);rw[hsn,show es.map Qj++ [Qj y]=(es++ [y]).map Qj by simp,Qh5]
 ·rintro ys hl tl' ⟨rfl,rfl⟩ htl;refine hK1 _ _ _ (Xo htl ?_);simp only[Qh,List.set,List.map_cons,List.map_nil,List.cons_append,List.nil_append];(refine sI fun K Z=>?_;(repeat rw[Qa];simp);refine Z ?_;clear Z K);(refine Qe ?_;(try simp only[zs]);refine Qk.ret rfl (.inl ?_);simp[zM])
def Qvr(t:T):D :=
 if t.k=6 then .tuple [.int .i64 0, .int .i64 2, .bool true] else if t.k=14\/t.k=15 then .tuple [.int .i64 0, .int .i64 1, .bool true]
 else if t.k=18 then .tuple [.int .i64 4, .int .i64 5, .bool true] else if t.k=21 then .tuple [.int .i64 5, .int .i64 6, .bool true]
 else if t.k=24 then .tuple [.int .i64 (IntKind.i64.wrap (t.a+1)), .int .i64 (IntKind.i64.wrap (t.a+2)), .bool (decide (0<=t.a) && decide ((t.ks.length:Int) - 2=t.a))] else .tuple [.int .i64 0, .int .i64 0, .bool false]
theorem Qcn{t:T}{i many:Nat}(h:spot t=some (i,many))(hl:t.ks.length<=Ql):Qvr t= .tuple [.int .i64 i, .int .i64 many, .bool true]:=by
 unfold Ql at hl;unfold spot at h;unfold Qvr;by_cases h1:t.k=6
 ·rw[if_pos h1]at h⊢;cases h;rfl
 rw[if_neg h1]at h⊢;by_cases h1:t.k=14\/t.k=15
 ·rw[if_pos h1]at h⊢;cases h;rfl
 rw[if_neg h1]at h⊢;by_cases h1:t.k=18
 ·rw[if_pos h1]at h⊢;cases h;rfl
 rw[if_neg h1]at h⊢;by_cases h1:t.k=21
 ·rw[if_pos h1]at h⊢;cases h;rfl
 rw[if_neg h1]at h⊢;by_cases h1:t.k=24/\0<=t.a/\(t.ks.length:Int) - 2=t.a
 ·rw[if_pos h1]at h;rw[if_pos h1.1];cases h;rw[Qbu (by omega) (by omega),Qbu (by omega) (by omega)];have e1:t.a+1=((t.a.toNat+1:Nat):Int):=by omega
  have e2:t.a+2=((t.a.toNat+2:Nat):Int):=by omega
  rw[e1,e2];simp[h1.2.1,h1.2.2]
 ·rw[if_neg h1]at h;cases h
theorem Qel{t:T}(h:spot t=none):∃p q,Qvr t= .tuple [.int .i64 p, .int .i64 q, .bool false]:=by
 unfold spot at h;unfold Qvr;by_cases h1:t.k=6
 ·rw[if_pos h1]at h;cases h
 rw[if_neg h1]at h⊢;by_cases h1:t.k=14\/t.k=15
 ·rw[if_pos h1]at h;cases h
 rw[if_neg h1]at h⊢;by_cases h1:t.k=18
 ·rw[if_pos h1]at h;cases h
 rw[if_neg h1]at h⊢;by_cases h1:t.k=21
 ·rw[if_pos h1]at h;cases h
 rw[if_neg h1]at h⊢;by_cases h1:t.k=24
 ·rw[if_pos h1];refine⟨IntKind.i64.wrap (t.a+1),IntKind.i64.wrap (t.a+2),?_⟩;have:(decide (0<=t.a) && decide ((t.ks.length:Int) - 2=t.a))=false:=by
   rw[Bool.eq_false_iff];intro h2;simp only[Bool.and_eq_true,decide_eq_true_eq]at h2;rw[if_pos ⟨h1,h2⟩]at h;cases h
  rw[this]
 ·rw[if_neg h1];exact⟨_,_,rfl⟩
theorem Qa7(t:T)(hl:t.ks.length<=Ql):Sp 95 [Qj t] [] (rt (Qvr t)):=by
 obtain⟨kk,nn,aa,ls,ks⟩:=t;simp only[T.ks_mk]at hl;unfold Ql at hl;unfold Qvr;simp only[T.k_mk,T.a_mk,T.ks_mk];rw[Qd9];refine eN Tryz.func95 rfl (by decide) rfl rfl ?_;(refine sI fun K Z=>?_;(repeat rw[Qa];simp);refine Z ?_;clear Z K);refine Qc fun K1 hK1=>?_
 (refine sI fun K Z=>?_;(repeat rw[Qa];simp);refine Z ?_;clear Z K);refine Wd ?_;by_cases h6:kk=6
 ·subst h6;(refine sI fun K Z=>?_;(repeat rw[Qa];simp);refine Z ?_;clear Z K);refine pT rfl ?_;(refine sI fun K Z=>?_;(repeat rw[Qa];simp);refine Z ?_;clear Z K);(refine Qe ?_;(try simp only[zs]);refine Qk.ret rfl (.inl ?_);simp[zM])
 (refine sI fun K Z=>?_;(repeat rw[Qa];simp[h6]);refine Z ?_;clear Z K);refine pF rfl ?_;refine Qc fun K2 hK2=>?_
 by_cases h14:kk=14
 ·subst h14;(refine sI fun K Z=>?_;(repeat rw[Qa];simp);refine Z ?_;clear Z K);refine pT rfl ?_;refine Qg (hK2 _ _ _ ?_);refine pT rfl ?_;(refine sI fun K Z=>?_;(repeat rw[Qa];simp);refine Z ?_;clear Z K);(refine Qe ?_;(try simp only[zs]);refine Qk.ret rfl (.inl ?_);simp[zM])
 by_cases h15:kk=15
 ·subst h15;(refine sI fun K Z=>?_;(repeat rw[Qa];simp);refine Z ?_;clear Z K);refine pF rfl ?_;(refine Qi Wa ?_;(repeat rw[Qa];simp));refine hK2 _ _ _ ?_;refine pT rfl ?_;(refine sI fun K Z=>?_;(repeat rw[Qa];simp);refine Z ?_;clear Z K);(refine Qe ?_;(try simp only[zs]);refine Qk.ret rfl (.inl ?_);simp[zM])
 (refine sI fun K Z=>?_;(repeat rw[Qa];simp[h14]);refine Z ?_;clear Z K);refine pF rfl ?_;(refine Qi Wa ?_;(repeat rw[Qa];simp[h15]));refine hK2 _ _ _ ?_;refine pF rfl ?_;by_cases h18:kk=18
 ·subst h18;(refine sI fun K Z=>?_;(repeat rw[Qa];simp);refine Z ?_;clear Z K);refine pT rfl ?_;(refine sI fun K Z=>?_;(repeat rw[Qa];simp);refine Z ?_;clear Z K);(refine Qe ?_;(try simp only[zs]);refine Qk.ret rfl (.inl ?_);simp[zM])
 (refine sI fun K Z=>?_;(repeat rw[Qa];simp[h18]);refine Z ?_;clear Z K);refine pF rfl ?_;by_cases h21:kk=21
 ·subst h21;(refine sI fun K Z=>?_;(repeat rw[Qa];simp);refine Z ?_;clear Z K);refine pT rfl ?_;(refine sI fun K Z=>?_;(repeat rw[Qa];simp);refine Z ?_;clear Z K);(refine Qe ?_;(try simp only[zs]);refine Qk.ret rfl (.inl ?_);simp[zM])
 (refine sI fun K Z=>?_;(repeat rw[Qa];simp[h21]);refine Z ?_;clear Z K);refine pF rfl ?_;by_cases h24:kk=24
 ·subst h24;have hw:IntKind.i64.wrap ((ks.length:Int) - 2)=(ks.length:Int) - 2:=Qbu (by omega) (by omega);(refine sI fun K Z=>?_;(repeat rw[Qa];simp);refine Z ?_;clear Z K);refine pT rfl ?_;by_cases h0:0<=aa
  ·(refine Qc fun K hK=>?_;refine dR fun KT hKT=>?_;(repeat rw[Qd];simp[h0,hw]));(refine hKT _ _ _ _ (by kernel_rfl) ?_;clear hKT KT);(refine hK _ _ _ ?_;clear hK K);(refine Qe ?_;(try simp only[zs]);refine Qk.ret rfl (.inl ?_);simp[zM]);simp only[h0,decide_true,Bool.true_and];exact decide_eq_decide.2 Iff.rfl
  ·(refine Qc fun K hK=>?_;refine dR fun KT hKT=>?_;(repeat rw[Qd];simp[h0,hw]));(refine hKT _ _ _ _ (by kernel_rfl) ?_;clear hKT KT);(refine hK _ _ _ ?_;clear hK K);(refine Qe ?_;(try simp only[zs]);refine Qk.ret rfl (.inl ?_);simp[zM]);simp[h0]
 ·(refine sI fun K Z=>?_;(repeat rw[Qa];simp[h24]);refine Z ?_;clear Z K);refine pF rfl ?_;refine Qg (hK1 _ _ _ ?_);(refine sI fun K Z=>?_;(repeat rw[Qa];simp);refine Z ?_;clear Z K);(refine Qe ?_;(try simp only[zs]);refine Qk.ret rfl (.inl ?_);simp[zM]);simp[h6,h14,h15,h18,h21,h24]
theorem Qvx(l:List T)(hl:l.length<=Ql)(hls:∀x,x∈l ->okT x):Sp 142 [.slice (l.map Qj) .any] [] (rt (.int .i64 (T.szs l 0))):=by
 obtain⟨R,hR⟩:∃R,R=T.szs l 0:=⟨_,rfl⟩;rw[<- hR];refine eN Tryz.func142 rfl (by decide) rfl rfl ?_;(refine sI fun K Z=>?_;(repeat rw[Qa];simp);refine Z ?_;clear Z K);(refine sI fun K Z=>?_;(repeat rw[Qa];simp);refine Z ?_;clear Z K);refine Qc fun K1 hK1=>?_
 (refine sI fun K Z=>?_;(repeat rw[Qa];simp);refine Z ?_;clear Z K);refine Xm Wa Qf (ti:=3) (tk:=8) (tn:=7) (td:=9) (ts:=16) [5,8,9,10,11,12,13,14,15,16] [3] (l.length) (fun k ys hl=>∃(s:Int),ys= [.int .i64 s]/\R=T.szs (l.drop k) s/\hl= []) rfl rfl rfl rfl rfl rfl rfl rfl rfl rfl rfl rfl (by simp) (by decide) rfl (by first | assumption | omega | (unfold Ql;omega)) rfl (by kernel_rfl) (by decide) ?_ ?_ ?_
 ·exact⟨0,rfl,hR,rfl⟩
 ·rintro i ys hl A hi ⟨s,rfl,hF,rfl⟩ hA hA2;simp only[Qh,List.set,List.map_cons,List.map_nil,List.cons_append,List.nil_append];have hi':(i:Int)<l.length:=by omega
  rw[List.drop_eq_getElem_cons hi,T.szs]at hF;have hrec:=Qhs l[i] (hls _ (List.getElem_mem hi));obtain⟨x,hx⟩:∃x,l[i]=x:=⟨_,rfl⟩;rw[hx]at hF hrec;have hEx:=Qb x;rw[hEx]at hrec;generalize x.sz=v at hF hrec;(refine sI fun K Z=>?_;(repeat rw[Qa];simp[hi,hi',hx,hEx]);refine Z ?_;clear Z K);(refine Qi Wa ?_;(repeat rw[Qa];simp));refine cXr (hrec) ?_
  (repeat rw[Qa];simp)
  (refine hA2 ([]) _ _ _ (LeT.refl _) (by decide) (by simp) (by simp[zM,Qh]) ?_ rfl;simp[zM]);exact hF
 ·rintro ys hl tl' ⟨s,rfl,hF,rfl⟩ htl;refine hK1 _ _ _ (Xo htl ?_);simp only[Qh,List.set,List.map_cons,List.map_nil,List.cons_append,List.nil_append];rw[List.drop_length,T.szs]at hF;subst hF;(refine sI fun K Z=>?_;(repeat rw[Qa];simp);refine Z ?_;clear Z K);(refine Qe ?_;(try simp only[zs]);refine Qk.ret rfl (.inl ?_);simp[zM])
theorem Qvy(many:Int)(t:T):∀b,okT t ->Sp 194 [Qj t, .int .i64 many, .int .i64 b] [] (rt (.int .i64 (T.sdw many t b))):=by
 induction t using T.ind with
 | h kk nn aa ls ks ih =>
 intro b ht;have hkl:ks.length<=Ql:=ht.kl;have hks:=ht.ks;simp only[T.ks_mk]at hks;obtain⟨R,hR⟩:∃R,R=T.sdw many (.mk kk nn aa ls ks) b:=⟨_,rfl⟩;rw[<- hR];rw[T.sdw]at hR;rw[Qd9];refine eN Tryz.func194 rfl (by decide) rfl rfl ?_;(refine sI fun K Z=>?_;(repeat rw[Qa];simp);refine Z ?_;clear Z K);by_cases h1:kk=1/\nn=b
 ·obtain⟨rfl,rfl⟩:=h1;rw[if_pos ⟨rfl,rfl⟩]at hR;subst hR;refine Qc fun K1 hK1=>?_
  (refine sI fun K Z=>?_;(repeat rw[Qa];simp);refine Z ?_;clear Z K);refine pT rfl ?_;(refine sI fun K Z=>?_;(repeat rw[Qa];simp);refine Z ?_;clear Z K);(refine Qe ?_;(try simp only[zs]);refine Qk.ret rfl (.inl ?_);simp[zM])
 rw[if_neg h1]at hR;refine Qtl [10,11,12,13,14,15,16,17,18] ([10,11,12,13,14,15,16,17,18].map fun _=> .junk) [.cells 27 [.int .i64 kk, .int .i64 nn, .int .i64 aa, .slice (ls.map Qn) .any, .slice (ks.map Qj) .any]] ?_ ?_
 rotate_left
 ·intro K hK0;by_cases h2:kk=1
  ·subst h2;have h3:¬ nn=b:=fun h=>h1 ⟨rfl,h⟩
   (refine sI fun K Z=>?_;(repeat rw[Qa];simp[h3]);refine Z ?_;clear Z K);refine pF rfl ?_;refine Qg (hK0 _ ?_);simp[leT,Qh]
  ·(refine sI fun K Z=>?_;(repeat rw[Qa];simp[h2]);refine Z ?_;clear Z K);refine pF rfl ?_;refine Qg (hK0 _ ?_);simp[leT,Qh]
 simp only[Qh,List.set,List.map_cons,List.map_nil,List.cons_append,List.nil_append];(refine sI fun K Z=>?_;(repeat rw[Qa];simp);refine Z ?_;clear Z K);refine Qc fun K1 hK1=>?_
 (refine sI fun K Z=>?_;(repeat rw[Qa];simp);refine Z ?_;clear Z K);refine Xm Wa Qf (ti:=3) (tk:=23) (tn:=22) (td:=24) (ts:=45) [8,9,23,24,25,26,27,28,29,30,31,32,33,34,35,36,37,38,39,40,41,42,43,44,45] [7] (ks.length) (fun k ys hl=>∃(s:Int),ys= [.int .i64 s]/\R=T.sdws many kk (ks.drop k) k b s/\hl= [.cells 27 [.int .i64 kk, .int .i64 nn, .int .i64 aa, .slice (ls.map Qn) .any, .slice (ks.map Qj) .any]]) rfl rfl rfl rfl rfl rfl rfl rfl rfl rfl rfl rfl (by simp) (by decide) rfl (by first | assumption | omega | (unfold Ql;omega)) rfl (by kernel_rfl) (by decide) ?_ ?_ ?_
 ·exact⟨1,rfl,hR,rfl⟩
 ·rintro i ys hl A hi ⟨s,rfl,hF,rfl⟩ hA hA2;simp only[Qh,List.set,List.map_cons,List.map_nil,List.cons_append,List.nil_append];have hi':(i:Int)<ks.length:=by omega
  rw[List.drop_eq_getElem_cons hi,T.sdws]at hF;have hrec:=ih ks[i] (List.getElem_mem hi) (Xl b kk i) (hks _ (List.getElem_mem hi));have hbi:=Qgu kk i;have hbd:Xl b kk i=if Qba kk i then IntKind.i64.wrap (b+1)else b:=rfl
  obtain⟨x,hx⟩:∃x,ks[i]=x:=⟨_,rfl⟩;rw[hx]at hF hrec;have hEx:=Qb x;rw[hEx]at hrec;generalize T.sdw many x (Xl b kk i)=v at hF hrec;generalize Xl b kk i=b' at hrec hbd;generalize Qba kk i=bb at hbi hbd;(refine sI fun K Z=>?_;(repeat rw[Qa];simp[hi,hi',hx,hEx]);refine Z ?_;clear Z K);(refine sR fun K hK=>?_;(repeat rw[Qa];simp));refine cXr (hbi) ?_
  (repeat rw[Qa];simp)
  (refine hK _ _ _ ?_;clear hK K);cases bb with
  | true =>
   rw[if_pos rfl]at hbd;subst hbd;refine pT rfl ?_;(refine Qi Wa ?_;(repeat rw[Qa];simp));refine cXr (hrec) ?_
   (repeat rw[Qa];simp)
   (refine hA2 ([0]) _ _ _ (LeT.refl _) (by decide) (by simp) (by simp[zM,Qh]) ?_ rfl;simp[zM]);exact hF
  | false =>
   rw[if_neg Bool.false_ne_true]at hbd;subst hbd;refine pF rfl ?_;(refine Qi Wa ?_;(repeat rw[Qa];simp));refine cXr (hrec) ?_
   (repeat rw[Qa];simp)
   (refine hA2 ([0]) _ _ _ (LeT.refl _) (by decide) (by simp) (by simp[zM,Qh]) ?_ rfl;simp[zM]);exact hF
 ·rintro ys hl tl' ⟨s,rfl,hF,rfl⟩ htl;refine hK1 _ _ _ (Xo htl ?_);simp only[Qh,List.set,List.map_cons,List.map_nil,List.cons_append,List.nil_append];rw[List.drop_length,T.sdws]at hF;subst hF;(refine sI fun K Z=>?_;(repeat rw[Qa];simp);refine Z ?_;clear Z K);(refine Qe ?_;(try simp only[zs]);refine Qk.ret rfl (.inl ?_);simp[zM])
theorem Qmj(t a:T)(ht:okT t)(ha:okT a)(hb:((t.sd a.nsz 0:Nat):Int)<=9223372036854775807):Sp 143 [Qj t,Qj a] [] (rt (.int .i64 ((t.sd a.nsz 0:Nat):Int))):=by
 have h1:=Qhs a ha;have h2:=Qvy a.sz t 0 ht;rw[Qnl a]at h1 h2;rw[Qnt,Qbu (n:=((t.sd a.nsz 0:Nat):Int)) (by omega) hb]at h2;generalize ((t.sd a.nsz 0:Nat):Int)=v at h2⊢;have hEt:=Qb t;have hEa:=Qb a;rw[hEt,hEa];rw[hEa]at h1;rw[hEt]at h2;refine eN Tryz.func143 rfl (by decide) rfl rfl ?_;(refine sI fun K Z=>?_;(repeat rw[Qa];simp);refine Z ?_;clear Z K);(refine Qc fun K hK=>?_;refine dR fun KT hKT=>?_;(repeat rw[Qd];simp));refine cYp (h1) ?_;(try simp only[zq]);(repeat rw[Qd];simp);refine cYp (h2) ?_;(try simp only[zq]);(repeat rw[Qd];simp);(refine hKT _ _ _ _ (by kernel_rfl) ?_;clear hKT KT);(refine hK _ _ _ ?_;clear hK K);(refine Qe ?_;(try simp only[zs]);refine Qk.ret rfl (.inl ?_);simp[zM])
def Wo:HO:= .mp [(.int .i64 6, .fn (.func 88) [.box 0 0] []),(.int .i64 14, .fn (.func 89) [.box 0 0] []),(.int .i64 15, .fn (.func 89) [.box 0 0] []),(.int .i64 7, .fn (.func 90) [.box 0 0] []),
 (.int .i64 3, .fn (.func 91) [.box 0 0] []),(.int .i64 18, .fn (.func 92) [.box 0 0] []),(.int .i64 21, .fn (.func 93) [.box 0 0] []),(.int .i64 24, .fn (.func 94) [.box 0 0] [])]
def Wg(left:Int)(l:List C)(once done:Bool):List HO:= [headD left l once done,Wo]
theorem Qs9(left:Int)(l:List C)(once done:Bool)(n:Int)(h0:0<=n)(h:n<=left)(hl:left<=9223372036854775807):Sp 141 [.box 0 0, .int .i64 n] (Wg left l once done) (fun o hc=>o= .ret (.tuple [])/\hc=Wg (left - n) l once done):=by
 have hw:IntKind.i64.wrap (left - n)=left - n:=Qbu (by omega) (by omega);have h':¬ left<n:=by omega
 unfold Wg headD Cs Wo;refine eN Tryz.func141 rfl (by decide) rfl rfl ?_;refine Qc fun K1 hK1=>?_
 (refine sI fun K Z=>?_;(repeat rw[Qa];simp[h']);refine Z ?_;clear Z K);refine pF rfl ?_;refine Qg (hK1 _ _ _ ?_);(refine Qi Wa ?_;(repeat rw[Qa];simp[hw]));((try simp only[zs]);refine Qk.nrm rfl (.inr ⟨[],by decide,by simp,?_⟩);simp[zM])
theorem burn_no(left:Int)(l:List C)(once done:Bool)(n:Int)(h:left<n):Sp 141 [.box 0 0, .int .i64 n] (Wg left l once done) (fun o hc=>o= .pan Qar/\hc=Wg left l once done):=by
 unfold Wg headD Cs Wo Qar;refine eN Tryz.func141 rfl (by decide) rfl rfl ?_;refine Qc fun K1 hK1=>?_
 (refine sI fun K Z=>?_;(repeat rw[Qa];simp[h]);refine Z ?_;clear Z K);refine pT rfl ?_;(refine Qi Wa ?_;(repeat rw[Qa];simp));((try simp only[zs]);refine Qk.pan (.inr ⟨[],by decide,by simp,?_⟩);simp[zM])
theorem Spec.dead{P:Program}{G:Nat ->Option D}{f:FuncId}{args:List D}{objs:List HO}{Post Post':Out ->List HO ->Prop}(h:Spec P G f args objs Post)(hP:∀o hc,Post o hc ->∃hc',(∀r,hOf hc' r=hOf hc r\/hOf hc' r= .dead)/\Post' o hc'):Spec P G f args objs Post':=fun ρ w vs hR hv=>by
 obtain⟨h1,h2⟩:=h ρ w vs hR hv;refine⟨h1,h2.mono ?_⟩;rintro e w' ⟨ρ',out,hc,hp,hm,hr,hx⟩;obtain⟨hc',hk,hp'⟩:=hP out hc hp;exact⟨ρ',out,hc',hp',hm,hr.kill hk,hx.kill hk⟩
theorem Qlk(left:Int)(l:List C)(once done:Bool)(n:Int)(h:left<n):Sp 141 [.box 0 0, .int .i64 n] (Wg left l once done) (fun o hc=>o= .pan Qar/\hc= [.dead, .dead]) :=
 (burn_no left l once done n h).dead fun o hc hp=>⟨[.dead, .dead],fun r=>by
  rw[hp.2]
  match r with
  | 0=>exact .inr rfl
  | 1=>exact .inr rfl
  | r+2=>exact .inl rfl,hp.1,rfl⟩
def Qlu(left:Int)(l:List C)(once done:Bool)(c:Nat)(d:D)(o:Out)(hc:List HO):Prop :=
 if(c:Int)<=left then o.fgt= .ret d/\hc=Wg (left - c) l once done else o= .pan Qar/\hc= [.dead, .dead]
theorem Qa5{left:Int}{l:List C}{once done:Bool}{c:Nat}{d:D}(h:(c:Int)<=left):Qlu left l once done c d=(fun o hc=>o.fgt= .ret d/\hc=Wg (left - c) l once done):=by
 funext o hc;unfold Qlu;rw[if_pos h]
theorem Qa6{left:Int}{l:List C}{once done:Bool}{c:Nat}{d:D}(h:¬ (c:Int)<=left):Qlu left l once done c d=(fun o hc=>o= .pan Qar/\hc= [.dead, .dead]):=by
 funext o hc;unfold Qlu;rw[if_neg h]
def Qe1(left:Int)(l:List C)(once done:Bool)(t:T)(r:Option (T×Nat)):Out ->List HO ->Prop:=match r with
 | none=>fun o hc=>o.fgt= .ret (.tuple [Qj t, .bool false])/\hc=Wg left l once done
 | some p=>Qlu left l once done p.2 (.tuple [Qj p.1, .bool true])
def PM:Nat:=536870912
def okS(t:T):Prop:=okT t/\t.pot<=PM
theorem okS.deep{t:T}(h:okS t):t.deep<=DM:=by have:=t.deep_nsz;have:=Qef t;have:=h.2;unfold PM at this;unfold DM;omega
theorem okS.kid{t:T}(h:okS t)(i:Nat):okS (t.kid i):=⟨Qah h.1 i,Nat.le_trans (Qbt t i) h.2⟩
theorem okS.sd{t a:T}(h:okS t)(ha:okS a):((t.sd a.nsz 0:Nat):Int)<=288230376151711744:=by
 have:=Wc0 h.2 ha.2;unfold PM at this;omega
theorem okS.nsz{t:T}(h:okS t):t.nsz<=536870912:=by have:=Qef t;have:=h.2;unfold PM at this;omega
structure okCs (l : List C) : Prop where
 len:l.length<=Ql
 ok:∀c,c∈l ->okC c
 bo:∀c,c∈l ->c.bo.nsz<=1048576
 ty:∀c,c∈l ->c.ty.nsz<=1048576
theorem Qqh(left:Int)(l:List C)(once done:Bool)(hl:left<=9223372036854775807)(t a:T)(ht:okS t)(ha:okS a) :
  Sp 138 [.box 0 0,Qj t,Qj a] (Wg left l once done) (Qlu left l once done (t.sd a.nsz 0) (Qj (t.put [a] 0))):=by
 have hz:=Qmj t a ht.1 ha.1 (Int.le_trans (ht.sd ha) (by omega));have hp:=Qki t [a] (by unfold Ql;simp) (fun b hb=>by rw[Qha hb];exact⟨ha.1,ha.deep⟩) ht.deep ht.1;have hEt:=Qb t;have hEa:=Qb a;generalize t.sd a.nsz 0=c at hz⊢;generalize t.put [a] 0=r at hp⊢;have hEr:=Qb r;unfold Ts at hp;simp only[List.map_cons,List.map_nil]at hp;rw[hEt,hEa]at hp hz⊢;by_cases hc:(c:Int)<=left
 ·rw[Qa5 hc];have hbu:=Qs9 left l once done c (by omega) hc hl;unfold Wg headD Cs Wo at hbu⊢;refine eN Tryz.func138 rfl (by decide) rfl rfl ?_;(refine sI fun K Z=>?_;(repeat rw[Qa];simp);refine Z ?_;clear Z K);(refine Qc fun K hK=>?_;refine dR fun KT hKT=>?_;(repeat rw[Qd];simp));refine cYp (hz) ?_;(try simp only[zq]);(repeat rw[Qd];simp);refine cYo [0,1] true false (hbu) (fun o h e=>e) ?_;simp[zU];(try simp only[zq]);(repeat rw[Qd];simp);(refine hKT _ _ _ _ (by kernel_rfl) ?_;clear hKT KT);(refine hK _ _ _ ?_;clear hK K);(refine sR fun K hK=>?_;(repeat rw[Qa];simp));refine cXr (hp) ?_
  (repeat rw[Qa];simp)
  (refine hK _ _ _ ?_;clear hK K);(refine Qe ?_;(try simp only[zs]);refine Qk.ret rfl (.inr ⟨[],by decide,by simp,?_⟩);simp[zM]);exact hEr.symm
 ·rw[Qa6 hc];have hbu:=Qlk left l once done c (by omega);unfold Wg headD Cs Wo Qar at hbu⊢;refine eN Tryz.func138 rfl (by decide) rfl rfl ?_;(refine sI fun K Z=>?_;(repeat rw[Qa];simp);refine Z ?_;clear Z K);(refine Qc fun K hK=>?_;refine dR fun KT hKT=>?_;(repeat rw[Qd];simp));refine cYp (hz) ?_;(try simp only[zq]);(repeat rw[Qd];simp);refine cYo [0,1] true false (hbu) (fun o h e=>e) ?_;simp[zU];((try simp only[Qt,Qu,Qr,Qw,Wi]);(repeat(refine Wr _ _ _ _ (by kernel_rfl) ?_;simp only[Qr,List.set,List.nil_append,List.cons_append,Nat.reduceAdd]));(try simp only[Qm]));(refine hKT _ _ _ _ (by kernel_rfl) ?_;clear hKT KT);simp[Xi];((try simp only[zs]);refine Qk.pan (.inr ⟨[],by decide,by simp,?_⟩);simp[zM])
theorem Qer(left:Int)(l:List C)(once done:Bool)(hl:left<=9223372036854775807)(t:T)(ht:okS t) :
  Sp 139 [.box 0 0,Qj t] (Wg left l once done) (Qlu left l once done t.nsz (Qj t)):=by
 have hz:=Qhs t ht.1;rw[Qnl,Qbu (by omega) (by have:=ht.nsz;omega)]at hz;have hEt:=Qb t;generalize t.nsz=c at hz⊢;rw[hEt]at hz⊢;by_cases hc:(c:Int)<=left
 ·rw[Qa5 hc];have hbu:=Qs9 left l once done c (by omega) hc hl;unfold Wg headD Cs Wo at hbu⊢;refine eN Tryz.func139 rfl (by decide) rfl rfl ?_;(refine sI fun K Z=>?_;(repeat rw[Qa];simp);refine Z ?_;clear Z K);(refine Qc fun K hK=>?_;refine dR fun KT hKT=>?_;(repeat rw[Qd];simp));refine cYp (hz) ?_;(try simp only[zq]);(repeat rw[Qd];simp);refine cYo [0,1] true false (hbu) (fun o h e=>e) ?_;simp[zU];(try simp only[zq]);(repeat rw[Qd];simp);(refine hKT _ _ _ _ (by kernel_rfl) ?_;clear hKT KT);(refine hK _ _ _ ?_;clear hK K);(refine sI fun K Z=>?_;(repeat rw[Qa];simp);refine Z ?_;clear Z K);(refine Qe ?_;(try simp only[zs]);refine Qk.ret rfl (.inr ⟨[],by decide,by simp,?_⟩);simp[zM])
 ·rw[Qa6 hc];have hbu:=Qlk left l once done c (by omega);unfold Wg headD Cs Wo Qar at hbu⊢;refine eN Tryz.func139 rfl (by decide) rfl rfl ?_;(refine sI fun K Z=>?_;(repeat rw[Qa];simp);refine Z ?_;clear Z K);(refine Qc fun K hK=>?_;refine dR fun KT hKT=>?_;(repeat rw[Qd];simp));refine cYp (hz) ?_;(try simp only[zq]);(repeat rw[Qd];simp);refine cYo [0,1] true false (hbu) (fun o h e=>e) ?_;simp[zU];((try simp only[Qt,Qu,Qr,Qw,Wi]);(repeat(refine Wr _ _ _ _ (by kernel_rfl) ?_;simp only[Qr,List.set,List.nil_append,List.cons_append,Nat.reduceAdd]));(try simp only[Qm]));(refine hKT _ _ _ _ (by kernel_rfl) ?_;clear hKT KT);simp[Xi];((try simp only[zs]);refine Qk.pan (.inr ⟨[],by decide,by simp,?_⟩);simp[zM])
theorem Zc(t:T)(n:Int)(m:Nat)(h:n=m):Sp 97 [Qj t, .int .i64 n] [] (rt (Qj (t.kid m))):=by
 subst h;have:=Quj t m
 rwa [Qj1]at this
def atC(l:List C)(n:Int)(lv:List LV):Option C:=if h:0<=n/\n.toNat<l.length then if(l[n.toNat]'h.2).lv=lv.length then some (l[n.toNat]'h.2)else none else none
theorem atC_low{l:List C}{n:Int}{lv:List LV}(h:¬ 0<=n):atC l n lv=none:=by unfold atC;rw[dif_neg (fun h2=>h h2.1)]
theorem atC_in{l:List C}{j:Nat}{lv:List LV}(h:j<l.length):atC l (j:Int) lv=if l[j].lv=lv.length then some l[j] else none:=by unfold atC;rw[dif_pos ⟨by omega,by omega⟩];rfl
theorem atC_out{l:List C}{j:Nat}{lv:List LV}(h:¬ j<l.length):atC l (j:Int) lv=none:=by unfold atC;rw[dif_neg (fun h2=>h h2.2)]
theorem body_at(l:List C)(n:Int)(lv:List LV):Qhk l n lv=match atC l n lv with
  | some c=>if c.has=true then some (c.bo.levels lv 0)else none
  | none=>none:=by
 unfold Qhk atC;split
 ·rename_i h;by_cases h1:(l[n.toNat]'h.2).lv=lv.length
  ·rw[if_pos h1];by_cases h2:(l[n.toNat]'h.2).has=true
   ·rw[if_pos ⟨h1,h2⟩];simp only;rw[if_pos h2]
   ·rw[if_neg (fun h3=>h2 h3.2)];simp only;rw[if_neg h2]
  ·rw[if_neg (fun h3=>h1 h3.1),if_neg h1]
 ·rfl
theorem Wbj{l:List C}{n:Int}{lv:List LV}{c:C}(h:atC l n lv=some c):c∈l:=by
 unfold atC at h;split at h
 ·split at h
  ·cases h;exact List.getElem_mem _
  ·cases h
 ·cases h
theorem Qax(c:C):Qbj c= .agg [.int .i64 c.lv, .int .i64 c.ty.k, .int .i64 c.ty.n, .int .i64 c.ty.a, .slice (c.ty.ls.map Qn) .any, .slice (c.ty.ks.map Qj) .any, .bool c.has, .int .i64 c.bo.k, .int .i64 c.bo.n, .int .i64 c.bo.a, .slice (c.bo.ls.map Qn) .any, .slice (c.bo.ks.map Qj) .any]:=rfl
theorem Wbi(l:List C)(hl:l.length<=Ql)(n:Int)(lv:List LV):Sp 192 [Cs l, .int .i64 n, .slice (lv.map Qn) .any] [] (rt (.tuple [Qbj ((atC l n lv).getD Qhn), .bool (atC l n lv).isSome])):=by
 unfold Ql at hl;by_cases h0:0<=n
 ·obtain⟨j,rfl⟩:∃j:Nat,n=j:=⟨n.toNat,by omega⟩;by_cases hj:j<l.length
  ·have hj':(j:Int)<l.length:=by omega
   rw[atC_in hj];obtain⟨c,hc⟩:∃c,l[j]=c:=⟨_,rfl⟩;rw[hc];have hE:=Qax c;by_cases hlv:c.lv=lv.length
   ·rw[if_pos hlv];unfold Cs;refine eN Tryz.func192 rfl (by decide) rfl rfl ?_;(refine sI fun K Z=>?_;(repeat rw[Qa];simp);refine Z ?_;clear Z K);refine Qc fun K1 hK1=>?_
    (refine sI fun K Z=>?_;(repeat rw[Qa];simp[h0,hj,hj',hc,hE,hlv]);refine Z ?_;clear Z K);refine pT rfl ?_;(refine sI fun K Z=>?_;(repeat rw[Qa];simp[h0,hj,hj',hc,hE,hlv]);refine Z ?_;clear Z K);(refine Qe ?_;(try simp only[zs]);refine Qk.ret rfl (.inl ?_);simp[zM]);rw[hE,hlv]
   ·rw[if_neg hlv];unfold Cs;refine eN Tryz.func192 rfl (by decide) rfl rfl ?_;(refine sI fun K Z=>?_;(repeat rw[Qa];simp);refine Z ?_;clear Z K);refine Qc fun K1 hK1=>?_
    (refine sI fun K Z=>?_;(repeat rw[Qa];simp[h0,hj,hj',hc,hE,hlv]);refine Z ?_;clear Z K);refine pF rfl ?_;refine Qg (hK1 _ _ _ ?_);(refine sI fun K Z=>?_;(repeat rw[Qa];simp);refine Z ?_;clear Z K);(refine Qe ?_;(try simp only[zs]);refine Qk.ret rfl (.inl ?_);simp[zM]);rfl
  ·have hj':¬ (j:Int)<l.length:=by omega
   rw[atC_out hj];unfold Cs;refine eN Tryz.func192 rfl (by decide) rfl rfl ?_;(refine sI fun K Z=>?_;(repeat rw[Qa];simp);refine Z ?_;clear Z K);refine Qc fun K1 hK1=>?_
   (refine sI fun K Z=>?_;(repeat rw[Qa];simp[h0,hj,hj']);refine Z ?_;clear Z K);refine pF rfl ?_;refine Qg (hK1 _ _ _ ?_);(refine sI fun K Z=>?_;(repeat rw[Qa];simp);refine Z ?_;clear Z K);(refine Qe ?_;(try simp only[zs]);refine Qk.ret rfl (.inl ?_);simp[zM]);rfl
 ·rw[atC_low h0];unfold Cs;refine eN Tryz.func192 rfl (by decide) rfl rfl ?_;(refine sI fun K Z=>?_;(repeat rw[Qa];simp);refine Z ?_;clear Z K);refine Qc fun K1 hK1=>?_
  (refine sI fun K Z=>?_;(repeat rw[Qa];simp[h0]);refine Z ?_;clear Z K);refine pF rfl ?_;refine Qg (hK1 _ _ _ ?_);(refine sI fun K Z=>?_;(repeat rw[Qa];simp);refine Z ?_;clear Z K);(refine Qe ?_;(try simp only[zs]);refine Qk.ret rfl (.inl ?_);simp[zM]);rfl
theorem Wbb(l:List C)(hl:okCs l)(n:Int)(lv:List LV)(hv:lv.length<=Ql)(hvl:∀b,b∈lv ->b.length<=Ql):Sp 140 [Cs l, .int .i64 n, .slice (lv.map Qn) .any] [] (rt (.tuple [Qj ((Qhk l n lv).getD Xa), .bool (Qhk l n lv).isSome])):=by
 have ha:=Wbi l hl.len n lv;rw[body_at];cases hc:atC l n lv with
 | none =>
  rw[hc]at ha;simp only[Option.getD_none,Option.isSome_none]at ha⊢;rw[encZ];unfold Cs Qhn at ha;unfold Cs;refine eN Tryz.func140 rfl (by decide) rfl rfl ?_;(refine sI fun K Z=>?_;(repeat rw[Qa];simp);refine Z ?_;clear Z K);(refine sR fun K hK=>?_;(repeat rw[Qa];simp));refine cXr (ha) ?_
  (repeat rw[Qa];simp)
  (refine hK _ _ _ ?_;clear hK K);refine Qc fun K1 hK1=>?_
  (refine sI fun K Z=>?_;(repeat rw[Qa];simp);refine Z ?_;clear Z K);refine pT rfl ?_;(refine sI fun K Z=>?_;(repeat rw[Qa];simp);refine Z ?_;clear Z K);(refine Qe ?_;(try simp only[zs]);refine Qk.ret rfl (.inl ?_);simp[zM])
 | some c =>
  rw[hc]at ha;simp only[Option.getD_some,Option.isSome_some]at ha⊢;have hm:=Wbj hc;have hbo:=(hl.ok c hm).2.2;have hd:c.bo.deep<=DM:=by have:=c.bo.deep_nsz;have:=hl.bo c hm;unfold DM;omega
  cases hh:c.has with
  | false =>
   rw[if_neg Bool.false_ne_true];simp only[Option.getD_none,Option.isSome_none];rw[encZ];rw[Qax c,hh]at ha;unfold Cs at ha⊢;refine eN Tryz.func140 rfl (by decide) rfl rfl ?_;(refine sI fun K Z=>?_;(repeat rw[Qa];simp);refine Z ?_;clear Z K);(refine sR fun K hK=>?_;(repeat rw[Qa];simp));refine cXr (ha) ?_
   (repeat rw[Qa];simp)
   (refine hK _ _ _ ?_;clear hK K);refine Qc fun K1 hK1=>?_
   (refine sI fun K Z=>?_;(repeat rw[Qa];simp);refine Z ?_;clear Z K);refine pT rfl ?_;(refine sI fun K Z=>?_;(repeat rw[Qa];simp);refine Z ?_;clear Z K);(refine Qe ?_;(try simp only[zs]);refine Qk.ret rfl (.inl ?_);simp[zM])
  | true =>
   rw[if_pos rfl];simp only[Option.getD_some,Option.isSome_some];have hs:=Qkv c.bo lv hv hvl hd hbo;rw[Qax c,hh]at ha;rw[Qb c.bo]at hs;generalize c.bo.levels lv 0=r at hs⊢;have hEr:=Qb r;unfold Lvs at hs;unfold Cs at ha⊢;refine eN Tryz.func140 rfl (by decide) rfl rfl ?_;(refine sI fun K Z=>?_;(repeat rw[Qa];simp);refine Z ?_;clear Z K);(refine sR fun K hK=>?_;(repeat rw[Qa];simp));refine cXr (ha) ?_
   (repeat rw[Qa];simp)
   (refine hK _ _ _ ?_;clear hK K);refine Qc fun K1 hK1=>?_
   (refine sI fun K Z=>?_;(repeat rw[Qa];simp);refine Z ?_;clear Z K);refine pF rfl ?_;refine Qg (hK1 _ _ _ ?_);(refine sR fun K hK=>?_;(repeat rw[Qa];simp));refine cXr (hs) ?_
   (repeat rw[Qa];simp)
   (refine hK _ _ _ ?_;clear hK K);(refine Qe ?_;(try simp only[zs]);refine Qk.ret rfl (.inl ?_);simp[zM]);exact hEr.symm
theorem Wag(left:Int)(l:List C)(once done:Bool)(hl:left<=9223372036854775807)(t x:T)(ht:okS t)(hx:okS x)(h6:t.k=6):Sp 88 [.box 0 0,Qj t,Qj x] (Wg left l once done) (Qe1 left l once done t (Qbn l t x)):=by
 have hEt:=Qb t;have hEx:=Qb x;unfold Qbn;rw[if_pos h6];by_cases hk:x.k=5
 ·rw[if_pos hk];have k1:=Zc x 1 1 rfl;have k2:=Zc t 1 1 rfl;have hp:=Qqh left l once done hl (x.kid 1) (t.kid 1) (hx.kid 1) (ht.kid 1);generalize (x.kid 1).sd (t.kid 1).nsz 0=c at hp⊢;generalize (x.kid 1).put [t.kid 1] 0=r at hp⊢;generalize x.kid 1=a at k1 hp;generalize t.kid 1=b at k2 hp;have hEr:=Qb r;have hEa:=Qb a;have hEb:=Qb b;rw[hEx,hEa,hk]at k1;rw[hEt,hEb]at k2;rw[hEa,hEb,hEr]at hp;rw[hEt,hEx];by_cases hc:(c:Int)<=left
  ·rw[Qa5 hc]at hp;show Spec _ _ _ _ _ (Qlu left l once done c _);rw[Qa5 hc];unfold Wg headD Cs Wo at hp⊢;refine eN Tryz.func88 rfl (by decide) rfl rfl ?_;(refine sI fun K Z=>?_;(repeat rw[Qa];simp);refine Z ?_;clear Z K);refine Qc fun K1 hK1=>?_
   (refine sI fun K Z=>?_;(repeat rw[Qa];simp[hk]);refine Z ?_;clear Z K);refine pF rfl ?_;refine Qg (hK1 _ _ _ ?_);(refine Qc fun K hK=>?_;refine dR fun KT hKT=>?_;(repeat rw[Qd];simp));refine cYp (k1) ?_;(try simp only[zq]);(repeat rw[Qd];simp);refine cYp (k2) ?_;(try simp only[zq]);(repeat rw[Qd];simp);refine cYo [0,1] true true (hp) (fun o h e=>e) ?_;simp[zU];(try simp only[zq]);(repeat rw[Qd];simp);(refine hKT _ _ _ _ (by kernel_rfl) ?_;clear hKT KT);(refine hK _ _ _ ?_;clear hK K);(refine Qe ?_;(try simp only[zs]);refine Qk.ret rfl (.inr ⟨[],by decide,by simp,?_⟩);simp[zM])
   first | done | simp[hEr]
  ·rw[Qa6 hc]at hp;show Spec _ _ _ _ _ (Qlu left l once done c _);rw[Qa6 hc];unfold Wg headD Cs Wo Qar at hp;unfold Wg headD Cs Wo Qar;refine eN Tryz.func88 rfl (by decide) rfl rfl ?_;(refine sI fun K Z=>?_;(repeat rw[Qa];simp);refine Z ?_;clear Z K);refine Qc fun K1 hK1=>?_
   (refine sI fun K Z=>?_;(repeat rw[Qa];simp[hk]);refine Z ?_;clear Z K);refine pF rfl ?_;refine Qg (hK1 _ _ _ ?_);(refine Qc fun K hK=>?_;refine dR fun KT hKT=>?_;(repeat rw[Qd];simp));refine cYp (k1) ?_;(try simp only[zq]);(repeat rw[Qd];simp);refine cYp (k2) ?_;(try simp only[zq]);(repeat rw[Qd];simp);refine cYo [0,1] true false (hp) (fun o h e=>e) ?_;simp[zU];((try simp only[Qt,Qu,Qr,Qw,Wi]);(repeat(refine Wr _ _ _ _ (by kernel_rfl) ?_;simp only[Qr,List.set,List.nil_append,List.cons_append,Nat.reduceAdd]));(try simp only[Qm]));(refine hKT _ _ _ _ (by kernel_rfl) ?_;clear hKT KT);simp[Xi];((try simp only[zs]);refine Qk.pan (.inr ⟨[],by decide,by simp,?_⟩);simp[zM])
 ·rw[if_neg hk];rw[hEt,hEx];unfold Qe1 Wg headD Cs Wo;refine eN Tryz.func88 rfl (by decide) rfl rfl ?_;(refine sI fun K Z=>?_;(repeat rw[Qa];simp);refine Z ?_;clear Z K);refine Qc fun K1 hK1=>?_
  (refine sI fun K Z=>?_;(repeat rw[Qa];simp[hk]);refine Z ?_;clear Z K);refine pT rfl ?_;(refine sI fun K Z=>?_;(repeat rw[Qa];simp);refine Z ?_;clear Z K);(refine Qe ?_;(try simp only[zs]);refine Qk.ret rfl (.inr ⟨[],by decide,by simp,?_⟩);simp[zM])
  first | done | simp[hEt]
theorem Wab(left:Int)(l:List C)(once done:Bool)(hl:left<=9223372036854775807)(t x:T)(ht:okS t)(h7:t.k=7):Sp 90 [.box 0 0,Qj t,Qj x] (Wg left l once done) (Qe1 left l once done t (Qbn l t x)):=by
 have hEt:=Qb t;have hEx:=Qb x;unfold Qbn;rw[if_neg (by omega),if_neg (by omega),if_pos h7];have k1:=Zc t 2 2 rfl;have k2:=Zc t 1 1 rfl;have hp:=Qqh left l once done hl (t.kid 2) (t.kid 1) (ht.kid 2) (ht.kid 1);generalize (t.kid 2).sd (t.kid 1).nsz 0=c at hp⊢;generalize (t.kid 2).put [t.kid 1] 0=r at hp⊢;generalize t.kid 2=a at k1 hp;generalize t.kid 1=b at k2 hp;have hEr:=Qb r;have hEa:=Qb a;have hEb:=Qb b;rw[hEt,hEa]at k1;rw[hEt,hEb]at k2;rw[hEa,hEb,hEr]at hp;rw[hEt,hEx];by_cases hc:(c:Int)<=left
 ·rw[Qa5 hc]at hp;show Spec _ _ _ _ _ (Qlu left l once done c _);rw[Qa5 hc];unfold Wg headD Cs Wo at hp⊢;refine eN Tryz.func90 rfl (by decide) rfl rfl ?_;(refine sI fun K Z=>?_;(repeat rw[Qa];simp);refine Z ?_;clear Z K);(refine Qc fun K hK=>?_;refine dR fun KT hKT=>?_;(repeat rw[Qd];simp));refine cYp (k1) ?_;(try simp only[zq]);(repeat rw[Qd];simp);refine cYp (k2) ?_;(try simp only[zq]);(repeat rw[Qd];simp);refine cYo [0,1] true true (hp) (fun o h e=>e) ?_;simp[zU];(try simp only[zq]);(repeat rw[Qd];simp);(refine hKT _ _ _ _ (by kernel_rfl) ?_;clear hKT KT);(refine hK _ _ _ ?_;clear hK K);(refine Qe ?_;(try simp only[zs]);refine Qk.ret rfl (.inr ⟨[],by decide,by simp,?_⟩);simp[zM])
  first | done | simp[hEr]
 ·rw[Qa6 hc]at hp;show Spec _ _ _ _ _ (Qlu left l once done c _);rw[Qa6 hc];unfold Wg headD Cs Wo Qar at hp;unfold Wg headD Cs Wo Qar;refine eN Tryz.func90 rfl (by decide) rfl rfl ?_;(refine sI fun K Z=>?_;(repeat rw[Qa];simp);refine Z ?_;clear Z K);(refine Qc fun K hK=>?_;refine dR fun KT hKT=>?_;(repeat rw[Qd];simp));refine cYp (k1) ?_;(try simp only[zq]);(repeat rw[Qd];simp);refine cYp (k2) ?_;(try simp only[zq]);(repeat rw[Qd];simp);refine cYo [0,1] true false (hp) (fun o h e=>e) ?_;simp[zU];((try simp only[Qt,Qu,Qr,Qw,Wi]);(repeat(refine Wr _ _ _ _ (by kernel_rfl) ?_;simp only[Qr,List.set,List.nil_append,List.cons_append,Nat.reduceAdd]));(try simp only[Qm]));(refine hKT _ _ _ _ (by kernel_rfl) ?_;clear hKT KT);simp[Xi];((try simp only[zs]);refine Qk.pan (.inr ⟨[],by decide,by simp,?_⟩);simp[zM])
theorem Qmx(left:Int)(l:List C)(once done:Bool)(hl:left<=9223372036854775807)(t x:T)(hx:okS x)(h14:t.k=14\/t.k=15):Sp 89 [.box 0 0,Qj t,Qj x] (Wg left l once done) (Qe1 left l once done t (Qbn l t x)):=by
 have hEt:=Qb t;have hEx:=Qb x;unfold Qbn;rw[if_neg (by omega),if_pos h14];by_cases hk:x.k=13
 ·rw[if_pos hk];by_cases h15:t.k=15
  ·rw[if_pos h15];have k1:=Zc x 1 1 rfl;have hp:=Qer left l once done hl (x.kid 1) (hx.kid 1);generalize (x.kid 1).nsz=c at hp⊢;generalize x.kid 1=r at k1 hp⊢;have hEr:=Qb r;rw[hEx,hEr,hk]at k1;rw[hEr]at hp;rw[hEt,hEx];by_cases hc:(c:Int)<=left
   ·rw[Qa5 hc]at hp;show Spec _ _ _ _ _ (Qlu left l once done c _);rw[Qa5 hc];unfold Wg headD Cs Wo at hp⊢;refine eN Tryz.func89 rfl (by decide) rfl rfl ?_;(refine sI fun K Z=>?_;(repeat rw[Qa];simp);refine Z ?_;clear Z K);refine Qc fun K1 hK1=>?_
    (refine sI fun K Z=>?_;(repeat rw[Qa];simp[hk]);refine Z ?_;clear Z K);refine pF rfl ?_;refine Qg (hK1 _ _ _ ?_);(refine sI fun K Z=>?_;(repeat rw[Qa];simp);refine Z ?_;clear Z K);refine Qc fun K2 hK2=>?_
    (refine sI fun K Z=>?_;(repeat rw[Qa];simp[h15]);refine Z ?_;clear Z K);refine pT rfl ?_;(refine Qi Wa ?_;(repeat rw[Qa];simp));refine hK2 _ _ _ ?_;(refine sR fun K hK=>?_;(repeat rw[Qa];simp));refine cXr (k1) ?_
    (repeat rw[Qa];simp)
    refine cXf [0,1] (hp) ?_;simp[zU]
    (repeat rw[Qa];simp)
    (refine hK _ _ _ ?_;clear hK K);(refine Qe ?_;(try simp only[zs]);refine Qk.ret rfl (.inr ⟨[],by decide,by simp,?_⟩);simp[zM])
    first | done | simp[hEr]
   ·rw[Qa6 hc]at hp;show Spec _ _ _ _ _ (Qlu left l once done c _);rw[Qa6 hc];unfold Wg headD Cs Wo Qar at hp;unfold Wg headD Cs Wo Qar;refine eN Tryz.func89 rfl (by decide) rfl rfl ?_;(refine sI fun K Z=>?_;(repeat rw[Qa];simp);refine Z ?_;clear Z K);refine Qc fun K1 hK1=>?_
    (refine sI fun K Z=>?_;(repeat rw[Qa];simp[hk]);refine Z ?_;clear Z K);refine pF rfl ?_;refine Qg (hK1 _ _ _ ?_);(refine sI fun K Z=>?_;(repeat rw[Qa];simp);refine Z ?_;clear Z K);refine Qc fun K2 hK2=>?_
    (refine sI fun K Z=>?_;(repeat rw[Qa];simp[h15]);refine Z ?_;clear Z K);refine pT rfl ?_;(refine Qi Wa ?_;(repeat rw[Qa];simp));refine hK2 _ _ _ ?_;(refine sR fun K hK=>?_;(repeat rw[Qa];simp));refine cXr (k1) ?_
    (repeat rw[Qa];simp)
    refine cXg [0,1] (hp) ?_;simp[zU];((try simp only[zs]);refine Qk.pan (.inr ⟨[],by decide,by simp,?_⟩);simp[zM])
  ·rw[if_neg h15];have k1:=Zc x 0 0 rfl;have hp:=Qer left l once done hl (x.kid 0) (hx.kid 0);generalize (x.kid 0).nsz=c at hp⊢;generalize x.kid 0=r at k1 hp⊢;have hEr:=Qb r;rw[hEx,hEr,hk]at k1;rw[hEr]at hp;rw[hEt,hEx];by_cases hc:(c:Int)<=left
   ·rw[Qa5 hc]at hp;show Spec _ _ _ _ _ (Qlu left l once done c _);rw[Qa5 hc];unfold Wg headD Cs Wo at hp⊢;refine eN Tryz.func89 rfl (by decide) rfl rfl ?_;(refine sI fun K Z=>?_;(repeat rw[Qa];simp);refine Z ?_;clear Z K);refine Qc fun K1 hK1=>?_
    (refine sI fun K Z=>?_;(repeat rw[Qa];simp[hk]);refine Z ?_;clear Z K);refine pF rfl ?_;refine Qg (hK1 _ _ _ ?_);(refine sI fun K Z=>?_;(repeat rw[Qa];simp);refine Z ?_;clear Z K);refine Qc fun K2 hK2=>?_
    (refine sI fun K Z=>?_;(repeat rw[Qa];simp[h15]);refine Z ?_;clear Z K);refine pF rfl ?_;refine Qg (hK2 _ _ _ ?_);(refine sR fun K hK=>?_;(repeat rw[Qa];simp));refine cXr (k1) ?_
    (repeat rw[Qa];simp)
    refine cXf [0,1] (hp) ?_;simp[zU]
    (repeat rw[Qa];simp)
    (refine hK _ _ _ ?_;clear hK K);(refine Qe ?_;(try simp only[zs]);refine Qk.ret rfl (.inr ⟨[],by decide,by simp,?_⟩);simp[zM])
    first | done | simp[hEr]
   ·rw[Qa6 hc]at hp;show Spec _ _ _ _ _ (Qlu left l once done c _);rw[Qa6 hc];unfold Wg headD Cs Wo Qar at hp;unfold Wg headD Cs Wo Qar;refine eN Tryz.func89 rfl (by decide) rfl rfl ?_;(refine sI fun K Z=>?_;(repeat rw[Qa];simp);refine Z ?_;clear Z K);refine Qc fun K1 hK1=>?_
    (refine sI fun K Z=>?_;(repeat rw[Qa];simp[hk]);refine Z ?_;clear Z K);refine pF rfl ?_;refine Qg (hK1 _ _ _ ?_);(refine sI fun K Z=>?_;(repeat rw[Qa];simp);refine Z ?_;clear Z K);refine Qc fun K2 hK2=>?_
    (refine sI fun K Z=>?_;(repeat rw[Qa];simp[h15]);refine Z ?_;clear Z K);refine pF rfl ?_;refine Qg (hK2 _ _ _ ?_);(refine sR fun K hK=>?_;(repeat rw[Qa];simp));refine cXr (k1) ?_
    (repeat rw[Qa];simp)
    refine cXg [0,1] (hp) ?_;simp[zU];((try simp only[zs]);refine Qk.pan (.inr ⟨[],by decide,by simp,?_⟩);simp[zM])
 ·rw[if_neg hk];rw[hEt,hEx];unfold Qe1 Wg headD Cs Wo;refine eN Tryz.func89 rfl (by decide) rfl rfl ?_;(refine sI fun K Z=>?_;(repeat rw[Qa];simp);refine Z ?_;clear Z K);refine Qc fun K1 hK1=>?_
  (refine sI fun K Z=>?_;(repeat rw[Qa];simp[hk]);refine Z ?_;clear Z K);refine pT rfl ?_;(refine sI fun K Z=>?_;(repeat rw[Qa];simp);refine Z ?_;clear Z K);(refine Qe ?_;(try simp only[zs]);refine Qk.ret rfl (.inr ⟨[],by decide,by simp,?_⟩);simp[zM])
  first | done | simp[hEt]
theorem Qw0(left:Int)(l:List C)(once done:Bool)(hl:left<=9223372036854775807)(t x:T)(ht:okS t)(h21:t.k=21):Sp 93 [.box 0 0,Qj t,Qj x] (Wg left l once done) (Qe1 left l once done t (Qbn l t x)):=by
 have hEt:=Qb t;have hEx:=Qb x;unfold Qbn;rw[if_neg (by omega),if_neg (by omega),if_neg (by omega),if_neg (by omega),if_neg (by omega),if_pos h21];by_cases hk:x.k=20
 ·rw[if_pos hk];have k1:=Zc t 3 3 rfl;have hp:=Qer left l once done hl (t.kid 3) (ht.kid 3);generalize (t.kid 3).nsz=c at hp⊢;generalize t.kid 3=r at k1 hp⊢;have hEr:=Qb r;rw[hEt,hEr]at k1;rw[hEr]at hp;rw[hEt,hEx];by_cases hc:(c:Int)<=left
  ·rw[Qa5 hc]at hp;show Spec _ _ _ _ _ (Qlu left l once done c _);rw[Qa5 hc];unfold Wg headD Cs Wo at hp⊢;refine eN Tryz.func93 rfl (by decide) rfl rfl ?_;(refine sI fun K Z=>?_;(repeat rw[Qa];simp);refine Z ?_;clear Z K);refine Qc fun K1 hK1=>?_
   (refine sI fun K Z=>?_;(repeat rw[Qa];simp[hk]);refine Z ?_;clear Z K);refine pF rfl ?_;refine Qg (hK1 _ _ _ ?_);(refine sR fun K hK=>?_;(repeat rw[Qa];simp));refine cXr (k1) ?_
   (repeat rw[Qa];simp)
   refine cXf [0,1] (hp) ?_;simp[zU]
   (repeat rw[Qa];simp)
   (refine hK _ _ _ ?_;clear hK K);(refine Qe ?_;(try simp only[zs]);refine Qk.ret rfl (.inr ⟨[],by decide,by simp,?_⟩);simp[zM])
   first | done | simp[hEr]
  ·rw[Qa6 hc]at hp;show Spec _ _ _ _ _ (Qlu left l once done c _);rw[Qa6 hc];unfold Wg headD Cs Wo Qar at hp;unfold Wg headD Cs Wo Qar;refine eN Tryz.func93 rfl (by decide) rfl rfl ?_;(refine sI fun K Z=>?_;(repeat rw[Qa];simp);refine Z ?_;clear Z K);refine Qc fun K1 hK1=>?_
   (refine sI fun K Z=>?_;(repeat rw[Qa];simp[hk]);refine Z ?_;clear Z K);refine pF rfl ?_;refine Qg (hK1 _ _ _ ?_);(refine sR fun K hK=>?_;(repeat rw[Qa];simp));refine cXr (k1) ?_
   (repeat rw[Qa];simp)
   refine cXg [0,1] (hp) ?_;simp[zU];((try simp only[zs]);refine Qk.pan (.inr ⟨[],by decide,by simp,?_⟩);simp[zM])
 ·rw[if_neg hk];rw[hEt,hEx];unfold Qe1 Wg headD Cs Wo;refine eN Tryz.func93 rfl (by decide) rfl rfl ?_;(refine sI fun K Z=>?_;(repeat rw[Qa];simp);refine Z ?_;clear Z K);refine Qc fun K1 hK1=>?_
  (refine sI fun K Z=>?_;(repeat rw[Qa];simp[hk]);refine Z ?_;clear Z K);refine pT rfl ?_;(refine sI fun K Z=>?_;(repeat rw[Qa];simp);refine Z ?_;clear Z K);(refine Qe ?_;(try simp only[zs]);refine Qk.ret rfl (.inr ⟨[],by decide,by simp,?_⟩);simp[zM])
  first | done | simp[hEt]
theorem Qqk(left:Int)(l:List C)(once done:Bool)(hl:left<=9223372036854775807)(t x:T)(ht:okS t)(hxn:okS x)(h24:t.k=24)(hs:(spot t).isSome=true):Sp 94 [.box 0 0,Qj t,Qj x] (Wg left l once done) (Qe1 left l once done t (Qbn l t x)):=by
 have hEt:=Qb t;have hEx:=Qb x;unfold Qbn;rw[if_neg (by omega),if_neg (by omega),if_neg (by omega),if_neg (by omega),if_neg (by omega),if_neg (by omega),if_pos ⟨h24,hs⟩];have hta:=ht.1.a;unfold I64 at hta;by_cases hk:x.k=23
 ·by_cases h0:0<=x.n
  ·by_cases h1:x.n<t.a
   ·rw[if_pos ⟨hk,h0,h1⟩];have hw:IntKind.i64.wrap (x.n+1)=x.n+1:=Qbu (by omega) (by omega);have k1:=Zc t (x.n+1) (x.n.toNat+1) (by omega);have hp:=Qer left l once done hl (t.kid (x.n.toNat+1)) (ht.kid _);generalize (t.kid (x.n.toNat+1)).nsz=c at hp⊢;generalize t.kid (x.n.toNat+1)=r at k1 hp⊢;have hEr:=Qb r;rw[hEt,hEr]at k1;rw[hEr]at hp;rw[hEt,hEx];have h0':¬ x.n<0:=by omega
    have h1':¬ t.a<=x.n:=by omega
    by_cases hc:(c:Int)<=left
    ·rw[Qa5 hc]at hp;show Spec _ _ _ _ _ (Qlu left l once done c _);rw[Qa5 hc];unfold Wg headD Cs Wo at hp⊢;refine eN Tryz.func94 rfl (by decide) rfl rfl ?_;(refine sI fun K Z=>?_;(repeat rw[Qa];simp);refine Z ?_;clear Z K);refine Qc fun K1 hK1=>?_
     (refine sI fun K Z=>?_;(repeat rw[Qa];simp[hk,h0,h0',h1,h1']);refine Z ?_;clear Z K);refine pF rfl ?_;refine Qg (hK1 _ _ _ ?_);(refine sR fun K hK=>?_;(repeat rw[Qa];simp[hw]));refine cXr (k1) ?_
     (repeat rw[Qa];simp)
     refine cXf [0,1] (hp) ?_;simp[zU]
     (repeat rw[Qa];simp)
     (refine hK _ _ _ ?_;clear hK K);(refine Qe ?_;(try simp only[zs]);refine Qk.ret rfl (.inr ⟨[],by decide,by simp,?_⟩);simp[zM])
     first | done | simp[hEr]
    ·rw[Qa6 hc]at hp;show Spec _ _ _ _ _ (Qlu left l once done c _);rw[Qa6 hc];unfold Wg headD Cs Wo Qar at hp;unfold Wg headD Cs Wo Qar;refine eN Tryz.func94 rfl (by decide) rfl rfl ?_;(refine sI fun K Z=>?_;(repeat rw[Qa];simp);refine Z ?_;clear Z K);refine Qc fun K1 hK1=>?_
     (refine sI fun K Z=>?_;(repeat rw[Qa];simp[hk,h0,h0',h1,h1']);refine Z ?_;clear Z K);refine pF rfl ?_;refine Qg (hK1 _ _ _ ?_);(refine sR fun K hK=>?_;(repeat rw[Qa];simp[hw]));refine cXr (k1) ?_
     (repeat rw[Qa];simp)
     refine cXg [0,1] (hp) ?_;simp[zU];((try simp only[zs]);refine Qk.pan (.inr ⟨[],by decide,by simp,?_⟩);simp[zM])
   ·rw[if_neg (fun h=>h1 h.2.2)];have h0':¬ x.n<0:=by omega
    have h1':t.a<=x.n:=by omega
    rw[hEt,hEx];unfold Qe1 Wg headD Cs Wo;refine eN Tryz.func94 rfl (by decide) rfl rfl ?_;(refine sI fun K Z=>?_;(repeat rw[Qa];simp);refine Z ?_;clear Z K);refine Qc fun K1 hK1=>?_
    (refine sI fun K Z=>?_;(repeat rw[Qa];simp[hk,h0,h0',h1,h1']);refine Z ?_;clear Z K);refine pT rfl ?_;(refine sI fun K Z=>?_;(repeat rw[Qa];simp);refine Z ?_;clear Z K);(refine Qe ?_;(try simp only[zs]);refine Qk.ret rfl (.inr ⟨[],by decide,by simp,?_⟩);simp[zM])
    first | done | simp[hEt]
  ·rw[if_neg (fun h=>h0 h.2.1)];have h0':x.n<0:=by omega
   rw[hEt,hEx];unfold Qe1 Wg headD Cs Wo;refine eN Tryz.func94 rfl (by decide) rfl rfl ?_;(refine sI fun K Z=>?_;(repeat rw[Qa];simp);refine Z ?_;clear Z K);refine Qc fun K1 hK1=>?_
   (refine sI fun K Z=>?_;(repeat rw[Qa];simp[hk,h0,h0']);refine Z ?_;clear Z K);refine pT rfl ?_;(refine sI fun K Z=>?_;(repeat rw[Qa];simp);refine Z ?_;clear Z K);(refine Qe ?_;(try simp only[zs]);refine Qk.ret rfl (.inr ⟨[],by decide,by simp,?_⟩);simp[zM])
   first | done | simp[hEt]
 ·rw[if_neg (fun h=>hk h.1)];rw[hEt,hEx];unfold Qe1 Wg headD Cs Wo;refine eN Tryz.func94 rfl (by decide) rfl rfl ?_;(refine sI fun K Z=>?_;(repeat rw[Qa];simp);refine Z ?_;clear Z K);refine Qc fun K1 hK1=>?_
  (refine sI fun K Z=>?_;(repeat rw[Qa];simp[hk]);refine Z ?_;clear Z K);refine pT rfl ?_;(refine sI fun K Z=>?_;(repeat rw[Qa];simp);refine Z ?_;clear Z K);(refine Qe ?_;(try simp only[zs]);refine Qk.ret rfl (.inr ⟨[],by decide,by simp,?_⟩);simp[zM])
  first | done | simp[hEt]
theorem Qst(left:Int)(l:List C)(once done:Bool)(hl:left<=9223372036854775807)(hcs:okCs l)(t x:T)(ht:okS t)(h3:t.k=3):Sp 91 [.box 0 0,Qj t,Qj x] (Wg left l once done) (Qe1 left l once done t (Qbn l t x)):=by
 have hEt:=Qb t;have hEx:=Qb x;unfold Qbn;rw[if_neg (by omega),if_neg (by omega),if_neg (by omega),if_pos h3];have hb:=Wbb l hcs t.n t.ls ht.1.ll (fun b hb=>(ht.1.ls b hb).1);cases hbo:Qhk l t.n t.ls with
 | none =>
  rw[hbo]at hb;simp only[Option.getD_none,Option.isSome_none]at hb;rw[encZ]at hb;rw[hEt,hEx];simp only[Option.map_none];unfold Cs at hb;unfold Qe1 Wg headD Cs Wo;refine eN Tryz.func91 rfl (by decide) rfl rfl ?_;(refine sI fun K Z=>?_;(repeat rw[Qa];simp);refine Z ?_;clear Z K);(refine Qc fun K hK=>?_;refine dR fun KT hKT=>?_;(repeat rw[Qd];simp));refine cYp (hb) ?_;(try simp only[zq]);(repeat rw[Qd];simp);(refine hKT _ _ _ _ (by kernel_rfl) ?_;clear hKT KT);(refine hK _ _ _ ?_;clear hK K);refine Qc fun K1 hK1=>?_
  (refine sI fun K Z=>?_;(repeat rw[Qa];simp);refine Z ?_;clear Z K);refine pT rfl ?_;(refine sI fun K Z=>?_;(repeat rw[Qa];simp);refine Z ?_;clear Z K);(refine Qe ?_;(try simp only[zs]);refine Qk.ret rfl (.inr ⟨[],by decide,by simp,?_⟩);simp[zM])
  first | done | simp[hEt]
 | some r =>
  rw[hbo]at hb;simp only[Option.getD_some,Option.isSome_some]at hb;have hr:okS r:=⟨Wbc hcs.ok hbo,by have:=Wev hcs.bo hbo;have:=Qfy r;unfold PM;omega⟩;have hp:=Qer left l once done hl r hr;simp only[Option.map_some];generalize r.nsz=c at hp⊢;have hEr:=Qb r;rw[hEr]at hp hb;rw[hEt,hEx];unfold Cs at hb;by_cases hc:(c:Int)<=left
  ·rw[Qa5 hc]at hp;show Spec _ _ _ _ _ (Qlu left l once done c _);rw[Qa5 hc];unfold Wg headD Cs Wo at hp⊢;refine eN Tryz.func91 rfl (by decide) rfl rfl ?_;(refine sI fun K Z=>?_;(repeat rw[Qa];simp);refine Z ?_;clear Z K);(refine Qc fun K hK=>?_;refine dR fun KT hKT=>?_;(repeat rw[Qd];simp));refine cYp (hb) ?_;(try simp only[zq]);(repeat rw[Qd];simp);(refine hKT _ _ _ _ (by kernel_rfl) ?_;clear hKT KT);(refine hK _ _ _ ?_;clear hK K);refine Qc fun K1 hK1=>?_
   (refine sI fun K Z=>?_;(repeat rw[Qa];simp);refine Z ?_;clear Z K);refine pF rfl ?_;refine Qg (hK1 _ _ _ ?_);(refine sR fun K hK=>?_;(repeat rw[Qa];simp));refine cXf [0,1] (hp) ?_;simp[zU]
   (repeat rw[Qa];simp)
   (refine hK _ _ _ ?_;clear hK K);(refine Qe ?_;(try simp only[zs]);refine Qk.ret rfl (.inr ⟨[],by decide,by simp,?_⟩);simp[zM])
   first | done | simp[hEr]
  ·rw[Qa6 hc]at hp;show Spec _ _ _ _ _ (Qlu left l once done c _);rw[Qa6 hc];unfold Wg headD Cs Wo Qar at hp;unfold Wg headD Cs Wo Qar;refine eN Tryz.func91 rfl (by decide) rfl rfl ?_;(refine sI fun K Z=>?_;(repeat rw[Qa];simp);refine Z ?_;clear Z K);(refine Qc fun K hK=>?_;refine dR fun KT hKT=>?_;(repeat rw[Qd];simp));refine cYp (hb) ?_;(try simp only[zq]);(repeat rw[Qd];simp);(refine hKT _ _ _ _ (by kernel_rfl) ?_;clear hKT KT);(refine hK _ _ _ ?_;clear hK K);refine Qc fun K1 hK1=>?_
   (refine sI fun K Z=>?_;(repeat rw[Qa];simp);refine Z ?_;clear Z K);refine pF rfl ?_;refine Qg (hK1 _ _ _ ?_);(refine sR fun K hK=>?_;(repeat rw[Qa];simp));refine cXg [0,1] (hp) ?_;simp[zU];((try simp only[zs]);refine Qk.pan (.inr ⟨[],by decide,by simp,?_⟩);simp[zM])
theorem Qge(t:T)(ht:okS t)(i:Int)(m:Nat)(c:Int)(hi:i=m):Sp 144 ([.int .i64 i, .int .i64 c]++ [.ref (Qj t)]) [] (rt (Qj ((t.kid m).lift 1 c 0))):=by
 have k1:=Zc t i m hi;have k2:=Qby (t.kid m) 1 c (ht.kid m).deep (ht.kid m).1;generalize (t.kid m).lift 1 c 0=r at k2⊢;generalize t.kid m=a at k1 k2;have hEr:=Qb r;rw[Qb t,Qb a]at k1;rw[Qb a,hEr]at k2;rw[Qb t];refine eN Tryz.func144 rfl (by decide) rfl rfl ?_;simp only[List.cons_append,List.nil_append];(refine sI fun K Z=>?_;(repeat rw[Qa];simp);refine Z ?_;clear Z K);(refine sR fun K hK=>?_;(repeat rw[Qa];simp));refine cXr (k1) ?_
 (repeat rw[Qa];simp)
 refine cXr (k2) ?_
 (repeat rw[Qa];simp)
 (refine hK _ _ _ ?_;clear hK K);(refine Qe ?_;(try simp only[zs]);refine Qk.ret rfl (.inl ?_);simp[zM]);exact hEr.symm
theorem Wen:List.map Qj ([]:List T)= []:=rfl
theorem Qwz(left:Int)(l:List C)(once done:Bool)(hl:left<=9223372036854775807)(t x:T)(ht:okS t)(hx:okS x)(h18:t.k=18):Sp 92 [.box 0 0,Qj t,Qj x] (Wg left l once done) (Qe1 left l once done t (Qbn l t x)):=by
 have hEt:=Qb t;have hEx:=Qb x;unfold Qbn;rw[if_neg (by omega),if_neg (by omega),if_neg (by omega),if_neg (by omega),if_pos h18];by_cases hk:x.k=17
 ·rw[if_pos hk];have e8:T.nszs [x.kid 0,x.kid 1,x.kid 1,t.kid 3,t.kid 3,t.kid 0,t.kid 1,t.kid 2]=(x.kid 0).nsz+(x.kid 1).nsz+(x.kid 1).nsz+(t.kid 3).nsz+(t.kid 3).nsz+(t.kid 0).nsz+(t.kid 1).nsz+(t.kid 2).nsz:=by
   simp only[T.nszs];omega
  have hz:=Qvx [x.kid 0,x.kid 1,x.kid 1,t.kid 3,t.kid 3,t.kid 0,t.kid 1,t.kid 2] (by unfold Ql;simp) (fun y hy=>by
   simp only[List.mem_cons,List.not_mem_nil,or_false]at hy;rcases hy with rfl | rfl | rfl | rfl | rfl | rfl | rfl | rfl
   ·exact(hx.kid _).1
   ·exact(hx.kid _).1
   ·exact(hx.kid _).1
   ·exact(ht.kid _).1
   ·exact(ht.kid _).1
   ·exact(ht.kid _).1
   ·exact(ht.kid _).1
   ·exact(ht.kid _).1)
  rw[Qnk _ 0 0 rfl,Nat.zero_add,e8]at hz;have z1:=(hx.kid 0).nsz;have z2:=(hx.kid 1).nsz;have z3:=(ht.kid 3).nsz;have z4:=(ht.kid 0).nsz;have z5:=(ht.kid 1).nsz;have z6:=(ht.kid 2).nsz;have hsd:=(ht.kid 1).sd (hx.kid 0);have hs:=Qmj (t.kid 1) (x.kid 0) (ht.kid 1).1 (hx.kid 0).1 (by omega);have hcn:Qvn t x=7+((x.kid 0).nsz+(x.kid 1).nsz+(x.kid 1).nsz+(t.kid 3).nsz+(t.kid 3).nsz+(t.kid 0).nsz+(t.kid 1).nsz+(t.kid 2).nsz)+(t.kid 1).sd (x.kid 0).nsz 0:=rfl;generalize hm:(x.kid 0).nsz+(x.kid 1).nsz+(x.kid 1).nsz+(t.kid 3).nsz+(t.kid 3).nsz+(t.kid 0).nsz+(t.kid 1).nsz+(t.kid 2).nsz=m at hz hcn;generalize (t.kid 1).sd (x.kid 0).nsz 0=s at hs hcn hsd;rw[Qbu (n:=((m:Nat):Int)) (by omega) (by omega)]at hz;have w1:IntKind.i64.wrap (7+(m:Int))=7+(m:Int):=Qbu (by omega) (by omega);have w2:IntKind.i64.wrap (7+(m:Int)+(s:Int))=((Qvn t x:Nat):Int):=by rw[hcn,Qbu (by omega) (by omega)];push_cast;rfl
  have hR:Qpa t x=ofT 6 [ofT 6 [ofT 6 [t.kid 3,x.kid 0],x.kid 1],ofT 5 [(t.kid 1).put [x.kid 0] 0,ofT 18 [(t.kid 0).lift 1 0 0,(t.kid 1).lift 1 1 0,(t.kid 2).lift 1 0 0,(t.kid 3).lift 1 0 0,ofT 6 [(x.kid 1).lift 1 0 0,ofT 1 []]]]]:=rfl;have ka0:=Zc x 0 0 rfl;have ka1:=Zc x 1 1 rfl;have k0:=Zc t 0 0 rfl;have k1:=Zc t 1 1 rfl;have k2:=Zc t 2 2 rfl;have k3:=Zc t 3 3 rfl;have c0:=Qge t ht 0 0 0 rfl;have c1:=Qge t ht 1 1 1 rfl;have c2:=Qge t ht 2 2 0 rfl;have c3:=Qge t ht 3 3 0 rfl;have cf:=Qby (x.kid 1) 1 0 (hx.kid 1).deep (hx.kid 1).1;have op:=Qki (t.kid 1) [x.kid 0] (by unfold Ql;simp) (fun b hb=>by rw[Qha hb];exact⟨(hx.kid 0).1,(hx.kid 0).deep⟩) (ht.kid 1).deep (ht.kid 1).1;obtain⟨a,ha⟩:∃y,y=x.kid 0:=⟨_,rfl⟩;obtain⟨g,hg⟩:∃y,y=x.kid 1:=⟨_,rfl⟩;obtain⟨t0,ht0⟩:∃y,y=t.kid 0:=⟨_,rfl⟩;obtain⟨t1,ht1⟩:∃y,y=t.kid 1:=⟨_,rfl⟩;obtain⟨t2,ht2⟩:∃y,y=t.kid 2:=⟨_,rfl⟩;obtain⟨t3,ht3⟩:∃y,y=t.kid 3:=⟨_,rfl⟩;obtain⟨l0,hl0⟩:∃y,y=(t.kid 0).lift 1 0 0:=⟨_,rfl⟩;obtain⟨l1,hl1⟩:∃y,y=(t.kid 1).lift 1 1 0:=⟨_,rfl⟩;obtain⟨l2,hl2⟩:∃y,y=(t.kid 2).lift 1 0 0:=⟨_,rfl⟩;obtain⟨l3,hl3⟩:∃y,y=(t.kid 3).lift 1 0 0:=⟨_,rfl⟩;obtain⟨lf,hlf⟩:∃y,y=(x.kid 1).lift 1 0 0:=⟨_,rfl⟩;obtain⟨v,hv⟩:∃y,y=ofT 1 []:=⟨_,rfl⟩;obtain⟨p1,hp1⟩:∃y,y=ofT 6 [lf,v]:=⟨_,rfl⟩;obtain⟨rest,hrest⟩:∃y,y=ofT 18 [l0,l1,l2,l3,p1]:=⟨_,rfl⟩;obtain⟨pu,hpu⟩:∃y,y=(t.kid 1).put [x.kid 0] 0:=⟨_,rfl⟩;obtain⟨lam,hlam⟩:∃y,y=ofT 5 [pu,rest]:=⟨_,rfl⟩;obtain⟨b1,hb1⟩:∃y,y=ofT 6 [t3,a]:=⟨_,rfl⟩;obtain⟨b2,hb2⟩:∃y,y=ofT 6 [b1,g]:=⟨_,rfl⟩;obtain⟨r,hr⟩:∃y,y=ofT 6 [b2,lam]:=⟨_,rfl⟩;have ov:=Qfd 1 [];have o1:=Qfd 6 [lf,v];have o2:=Qfd 18 [l0,l1,l2,l3,p1];have o3:=Qfd 5 [pu,rest];have o4:=Qfd 6 [t3,a];have o5:=Qfd 6 [b1,g];have o6:=Qfd 6 [b2,lam];rw[<- ha]at ka0;rw[<- hg]at ka1;rw[<- ht0]at k0;rw[<- ht1]at k1;rw[<- ht2]at k2;rw[<- ht3]at k3;rw[<- hl0]at c0;rw[<- hl1]at c1;rw[<- hl2]at c2;rw[<- hl3]at c3;rw[<- hlf,<- hg]at cf;rw[<- hv]at ov;rw[<- hp1]at o1;rw[<- hrest]at o2;rw[<- hpu,<- ht1,<- ha]at op;rw[<- hlam]at o3;rw[<- hb1]at o4;rw[<- hb2]at o5;rw[<- hr]at o6;rw[<- ha,<- hg,<- ht0,<- ht1,<- ht2,<- ht3]at hz;rw[<- ht1,<- ha]at hs;have hRr:Qpa t x=r:=by rw[hR,<- hv,<- hlf,<- hp1,<- hl0,<- hl1,<- hl2,<- hl3,<- hrest,<- hpu,<- hlam,<- ht3,<- ha,<- hb1,<- hg,<- hb2,<- hr]
  rw[hRr];generalize Qvn t x=c at w2⊢;unfold Ts at op;have Ea:=Qb a;have Eg:=Qb g;have Et0:=Qb t0;have Et1:=Qb t1;have Et2:=Qb t2;have Et3:=Qb t3;have El0:=Qb l0;have El1:=Qb l1;have El2:=Qb l2;have El3:=Qb l3;have Elf:=Qb lf;have Ev:=Qb v;have Ep1:=Qb p1;have Erest:=Qb rest;have Epu:=Qb pu;have Elam:=Qb lam;have Eb1:=Qb b1;have Eb2:=Qb b2;have Er:=Qb r;simp only[List.map_cons,Wen]at ov o1 o2 op o3 o4 o5 o6 hz;simp only[Ea,Eg,Et0,Et1,Et2,Et3,El0,El1,El2,El3,Elf,Ev,Ep1,Erest,Epu,Elam,Eb1,Eb2,Er]at ka0 ka1 k0 k1 k2 k3 c0 c1 c2 c3 cf ov o1 o2 op o3 o4 o5 o6 hz hs;rw[hEt]at k0 k1 k2 k3 c0 c1 c2 c3;rw[hEx,hk]at ka0 ka1;rw[hEt,hEx];simp only[List.cons_append,List.nil_append]at c0 c1 c2 c3;by_cases hc:(c:Int)<=left
  ·have hp:=Qs9 left l once done c (by omega) hc hl;show Spec _ _ _ _ _ (Qlu left l once done c _);rw[Qa5 hc];unfold Wg headD Cs Wo at hp⊢;refine eN Tryz.func92 rfl (by decide) rfl rfl ?_;(refine sI fun K Z=>?_;(repeat rw[Qa];simp);refine Z ?_;clear Z K);(refine Xe (T:=Qq) 2 (ty:=27) (ds:= [.int .i64 t.k, .int .i64 t.n, .int .i64 t.a, .slice (t.ls.map Qn) .any, .slice (t.ks.map Qj) .any]) rfl rfl (by first | exact⟨rfl, .inr ⟨_,rfl,rfl⟩⟩ | exact⟨rfl, .inl rfl⟩) ?_;simp[D.frzs,D.frz,HO.frz,Qam,Qat,TK.isAgg,FK.isB,FK.isM,FK.isO,D.isLen]);refine Qc fun K1 hK1=>?_
   (refine sI fun K Z=>?_;(repeat rw[Qa];simp[hk]);refine Z ?_;clear Z K);refine pF rfl ?_;refine Qg (hK1 _ _ _ ?_);(refine Qc fun K hK=>?_;refine dR fun KT hKT=>?_;(repeat rw[Qd];simp));refine cYp (ka0) ?_;(try simp only[zq]);(repeat rw[Qd];simp);refine cYp (ka1) ?_;(try simp only[zq]);(repeat rw[Qd];simp);refine cYp (k3) ?_;(try simp only[zq]);(repeat rw[Qd];simp);(refine hKT _ _ _ _ (by kernel_rfl) ?_;clear hKT KT);(refine hK _ _ _ ?_;clear hK K);(refine Qc fun K hK=>?_;refine dR fun KT hKT=>?_;(repeat rw[Qd];simp));refine cYp (k0) ?_;(try simp only[zq]);(repeat rw[Qd];simp[w1,w2]);refine cYp (k1) ?_;(try simp only[zq]);(repeat rw[Qd];simp[w1,w2]);refine cYp (k2) ?_;(try simp only[zq]);(repeat rw[Qd];simp[w1,w2]);refine cYp (hz) ?_;(try simp only[zq]);(repeat rw[Qd];simp[w1,w2]);refine cYp (k1) ?_;(try simp only[zq]);(repeat rw[Qd];simp[w1,w2]);refine cYp (hs) ?_;(try simp only[zq]);(repeat rw[Qd];simp[w1,w2]);refine cYo [0,1] true false (hp) (fun o h e=>e) ?_;simp[zU];(try simp only[zq]);(repeat rw[Qd];simp);(refine hKT _ _ _ _ (by kernel_rfl) ?_;clear hKT KT);(refine hK _ _ _ ?_;clear hK K);(refine sI fun K Z=>?_;(repeat rw[Qa];simp);refine Z ?_;clear Z K);(refine Qc fun K hK=>?_;refine dR fun KT hKT=>?_;(repeat rw[Qd];simp));refine cYp (c0) ?_;(try simp only[zq]);(repeat rw[Qd];simp);refine cYp (c1) ?_;(try simp only[zq]);(repeat rw[Qd];simp);refine cYp (c2) ?_;(try simp only[zq]);(repeat rw[Qd];simp);refine cYp (c3) ?_;(try simp only[zq]);(repeat rw[Qd];simp);refine cYp (cf) ?_;(try simp only[zq]);(repeat rw[Qd];simp);refine cYp (ov) ?_;(try simp only[zq]);(repeat rw[Qd];simp);refine cYp (o1) ?_;(try simp only[zq]);(repeat rw[Qd];simp);refine cYp (o2) ?_;(try simp only[zq]);(repeat rw[Qd];simp);(refine hKT _ _ _ _ (by kernel_rfl) ?_;clear hKT KT);(refine hK _ _ _ ?_;clear hK K);(refine Qc fun K hK=>?_;refine dR fun KT hKT=>?_;(repeat rw[Qd];simp));refine cYp (k1) ?_;(try simp only[zq]);(repeat rw[Qd];simp);refine cYp (op) ?_;(try simp only[zq]);(repeat rw[Qd];simp);refine cYp (o3) ?_;(try simp only[zq]);(repeat rw[Qd];simp);(refine hKT _ _ _ _ (by kernel_rfl) ?_;clear hKT KT);(refine hK _ _ _ ?_;clear hK K);(refine Qc fun K hK=>?_;refine dR fun KT hKT=>?_;(repeat rw[Qd];simp));refine cYp (o4) ?_;(try simp only[zq]);(repeat rw[Qd];simp);refine cYp (o5) ?_;(try simp only[zq]);(repeat rw[Qd];simp);refine cYp (o6) ?_;(try simp only[zq]);(repeat rw[Qd];simp);(refine hKT _ _ _ _ (by kernel_rfl) ?_;clear hKT KT);(refine hK _ _ _ ?_;clear hK K);(refine Qe ?_;(try simp only[zs]);refine Qk.ret rfl (.inr ⟨[],by decide,by simp,?_⟩);simp[zM]);exact Er.symm
  ·have hp:=Qlk left l once done c (by omega);show Spec _ _ _ _ _ (Qlu left l once done c _);rw[Qa6 hc];unfold Wg headD Cs Wo Qar at hp;unfold Wg headD Cs Wo Qar;refine eN Tryz.func92 rfl (by decide) rfl rfl ?_;(refine sI fun K Z=>?_;(repeat rw[Qa];simp);refine Z ?_;clear Z K);(refine Xe (T:=Qq) 2 (ty:=27) (ds:= [.int .i64 t.k, .int .i64 t.n, .int .i64 t.a, .slice (t.ls.map Qn) .any, .slice (t.ks.map Qj) .any]) rfl rfl (by first | exact⟨rfl, .inr ⟨_,rfl,rfl⟩⟩ | exact⟨rfl, .inl rfl⟩) ?_;simp[D.frzs,D.frz,HO.frz,Qam,Qat,TK.isAgg,FK.isB,FK.isM,FK.isO,D.isLen]);refine Qc fun K1 hK1=>?_
   (refine sI fun K Z=>?_;(repeat rw[Qa];simp[hk]);refine Z ?_;clear Z K);refine pF rfl ?_;refine Qg (hK1 _ _ _ ?_);(refine Qc fun K hK=>?_;refine dR fun KT hKT=>?_;(repeat rw[Qd];simp));refine cYp (ka0) ?_;(try simp only[zq]);(repeat rw[Qd];simp);refine cYp (ka1) ?_;(try simp only[zq]);(repeat rw[Qd];simp);refine cYp (k3) ?_;(try simp only[zq]);(repeat rw[Qd];simp);(refine hKT _ _ _ _ (by kernel_rfl) ?_;clear hKT KT);(refine hK _ _ _ ?_;clear hK K);(refine Qc fun K hK=>?_;refine dR fun KT hKT=>?_;(repeat rw[Qd];simp));refine cYp (k0) ?_;(try simp only[zq]);(repeat rw[Qd];simp[w1,w2]);refine cYp (k1) ?_;(try simp only[zq]);(repeat rw[Qd];simp[w1,w2]);refine cYp (k2) ?_;(try simp only[zq]);(repeat rw[Qd];simp[w1,w2]);refine cYp (hz) ?_;(try simp only[zq]);(repeat rw[Qd];simp[w1,w2]);refine cYp (k1) ?_;(try simp only[zq]);(repeat rw[Qd];simp[w1,w2]);refine cYp (hs) ?_;(try simp only[zq]);(repeat rw[Qd];simp[w1,w2]);refine cYo [0,1] true false (hp) (fun o h e=>e) ?_;simp[zU];((try simp only[Qt,Qu,Qr,Qw,Wi]);(repeat(refine Wr _ _ _ _ (by kernel_rfl) ?_;simp only[Qr,List.set,List.nil_append,List.cons_append,Nat.reduceAdd]));(try simp only[Qm]));(refine hKT _ _ _ _ (by kernel_rfl) ?_;clear hKT KT);simp[Xi];((try simp only[zs]);refine Qk.pan (.inr ⟨[],by decide,by simp,?_⟩);simp[zM])
 ·rw[if_neg hk];rw[hEt,hEx];unfold Qe1 Wg headD Cs Wo;refine eN Tryz.func92 rfl (by decide) rfl rfl ?_;(refine sI fun K Z=>?_;(repeat rw[Qa];simp);refine Z ?_;clear Z K);refine Qc fun K1 hK1=>?_
  (refine sI fun K Z=>?_;(repeat rw[Qa];simp[hk]);refine Z ?_;clear Z K);refine pT rfl ?_;(refine sI fun K Z=>?_;(repeat rw[Qa];simp);refine Z ?_;clear Z K);(refine Qe ?_;(try simp only[zs]);refine Qk.ret rfl (.inr ⟨[],by decide,by simp,?_⟩);simp[zM])
  first | done | simp[hEt]
theorem Qca(left:Int)(l:List C)(once done:Bool)(t:T)(w:Option (T×Nat)):(∃v b lf,Qe1 left l once done t w=fun o hc=>o.fgt= .ret (.tuple [Qj v, .bool b])/\hc=Wg lf l once done)\/Qe1 left l once done t w=fun o hc=>o= .pan Qar/\hc= [.dead, .dead]:=by
 cases w with
 | none=>exact .inl ⟨t,false,left,rfl⟩
 | some p =>
  by_cases h:(p.2:Int)<=left
  ·exact .inl ⟨p.1,true,left - p.2,Qa5 h⟩
  ·exact .inr (Qa6 h)
theorem Qb3{t:T}{i many:Nat}(h:spot t=some (i,many)):Wx t=t.kid i:=by unfold Wx;rw[h]
theorem Qg9{t:T}(h:spot t=none):Wx t=Xa:=by unfold Wx;rw[h]
theorem step_6(left:Int)(l:List C)(once done:Bool)(hl:left<=9223372036854775807)(t:T)(ht:okS t)(hk:t.k=6){i many:Nat}(hs:spot t=some (i,many))(hp:Sp 88 [.box 0 0,Qj t,Qj (Wx t)] (Wg left l once done) (Qe1 left l once done t (Qbn l t (Wx t)))):Sp 98 [.box 0 0,Qj t] (Wg left l once done) (Qe1 left l once done t (Qbn l t (Wx t))):=by
 have hsp:=Qa7 t ht.1.kl;rw[Qcn hs ht.1.kl]at hsp;have hki:=Zc t i i rfl;rw[<- Qb3 hs]at hki;rcases Qca left l once done t (Qbn l t (Wx t))with ⟨v,b,lf,e⟩ | e
 ·rw[e]at hp⊢;generalize Wx t=x at hp hki;have hEx:=Qb x;rw[hEx,Qb t,Qb v,hk]at hp;rw[Qb t]at hsp;rw[hEx,Qb t,hk]at hki;rw[Qb t];unfold Wg headD Cs Wo at hp⊢;refine eN Tryz.func98 rfl (by decide) rfl rfl ?_;(refine sI fun K Z=>?_;(repeat rw[Qa];simp);refine Z ?_;clear Z K);(refine sR fun K hK=>?_;(repeat rw[Qa];simp));refine cXr (hsp) ?_
  (repeat rw[Qa];simp)
  (refine hK _ _ _ ?_;clear hK K);(refine Qc fun K hK=>?_;refine dR fun KT hKT=>?_;(repeat rw[Qd];simp[hk]));(refine hKT _ _ _ _ (by kernel_rfl) ?_;clear hKT KT);(refine hK _ _ _ ?_;clear hK K);refine Qc fun K1 hK1=>?_
  (refine sI fun K Z=>?_;(repeat rw[Qa];simp[hk]);refine Z ?_;clear Z K);refine pF rfl ?_;refine Qg (hK1 _ _ _ ?_);(refine sI fun K Z=>?_;(repeat rw[Qa];simp);refine Z ?_;clear Z K);refine Qc fun K2 hK2=>?_
  (refine sI fun K Z=>?_;(repeat rw[Qa];simp);refine Z ?_;clear Z K);refine pT rfl ?_;(refine Qi Wa ?_;(repeat rw[Qa];simp));refine cXr (hki) ?_
  (repeat rw[Qa];simp)
  refine hK2 _ _ _ ?_;(refine sR fun K hK=>?_;(repeat rw[Qa];simp));refine cXf [0,1] (hp) ?_;simp[zU]
  (repeat rw[Qa];simp)
  (refine hK _ _ _ ?_;clear hK K);(refine Qe ?_;(try simp only[zs]);refine Qk.ret rfl (.inr ⟨[],by decide,by simp,?_⟩);simp[zM])
  first | done | simp[Qb v]
 ·rw[e]at hp⊢;generalize Wx t=x at hp hki;have hEx:=Qb x;rw[hEx,Qb t,hk]at hp;rw[Qb t]at hsp;rw[hEx,Qb t,hk]at hki;rw[Qb t];unfold Wg headD Cs Wo Qar at hp;unfold Wg headD Cs Wo Qar;refine eN Tryz.func98 rfl (by decide) rfl rfl ?_;(refine sI fun K Z=>?_;(repeat rw[Qa];simp);refine Z ?_;clear Z K);(refine sR fun K hK=>?_;(repeat rw[Qa];simp));refine cXr (hsp) ?_
  (repeat rw[Qa];simp)
  (refine hK _ _ _ ?_;clear hK K);(refine Qc fun K hK=>?_;refine dR fun KT hKT=>?_;(repeat rw[Qd];simp[hk]));(refine hKT _ _ _ _ (by kernel_rfl) ?_;clear hKT KT);(refine hK _ _ _ ?_;clear hK K);refine Qc fun K1 hK1=>?_
  (refine sI fun K Z=>?_;(repeat rw[Qa];simp[hk]);refine Z ?_;clear Z K);refine pF rfl ?_;refine Qg (hK1 _ _ _ ?_);(refine sI fun K Z=>?_;(repeat rw[Qa];simp);refine Z ?_;clear Z K);refine Qc fun K2 hK2=>?_
  (refine sI fun K Z=>?_;(repeat rw[Qa];simp);refine Z ?_;clear Z K);refine pT rfl ?_;(refine Qi Wa ?_;(repeat rw[Qa];simp));refine cXr (hki) ?_
  (repeat rw[Qa];simp)
  refine hK2 _ _ _ ?_;(refine sR fun K hK=>?_;(repeat rw[Qa];simp));refine cXg [0,1] (hp) ?_;simp[zU];((try simp only[zs]);refine Qk.pan (.inr ⟨[],by decide,by simp,?_⟩);simp[zM])
theorem step_14(left:Int)(l:List C)(once done:Bool)(hl:left<=9223372036854775807)(t:T)(ht:okS t)(hk:t.k=14){i many:Nat}(hs:spot t=some (i,many))(hp:Sp 89 [.box 0 0,Qj t,Qj (Wx t)] (Wg left l once done) (Qe1 left l once done t (Qbn l t (Wx t)))):Sp 98 [.box 0 0,Qj t] (Wg left l once done) (Qe1 left l once done t (Qbn l t (Wx t))):=by
 have hsp:=Qa7 t ht.1.kl;rw[Qcn hs ht.1.kl]at hsp;have hki:=Zc t i i rfl;rw[<- Qb3 hs]at hki;rcases Qca left l once done t (Qbn l t (Wx t))with ⟨v,b,lf,e⟩ | e
 ·rw[e]at hp⊢;generalize Wx t=x at hp hki;have hEx:=Qb x;rw[hEx,Qb t,Qb v,hk]at hp;rw[Qb t]at hsp;rw[hEx,Qb t,hk]at hki;rw[Qb t];unfold Wg headD Cs Wo at hp⊢;refine eN Tryz.func98 rfl (by decide) rfl rfl ?_;(refine sI fun K Z=>?_;(repeat rw[Qa];simp);refine Z ?_;clear Z K);(refine sR fun K hK=>?_;(repeat rw[Qa];simp));refine cXr (hsp) ?_
  (repeat rw[Qa];simp)
  (refine hK _ _ _ ?_;clear hK K);(refine Qc fun K hK=>?_;refine dR fun KT hKT=>?_;(repeat rw[Qd];simp[hk]));(refine hKT _ _ _ _ (by kernel_rfl) ?_;clear hKT KT);(refine hK _ _ _ ?_;clear hK K);refine Qc fun K1 hK1=>?_
  (refine sI fun K Z=>?_;(repeat rw[Qa];simp[hk]);refine Z ?_;clear Z K);refine pF rfl ?_;refine Qg (hK1 _ _ _ ?_);(refine sI fun K Z=>?_;(repeat rw[Qa];simp);refine Z ?_;clear Z K);refine Qc fun K2 hK2=>?_
  (refine sI fun K Z=>?_;(repeat rw[Qa];simp);refine Z ?_;clear Z K);refine pT rfl ?_;(refine Qi Wa ?_;(repeat rw[Qa];simp));refine cXr (hki) ?_
  (repeat rw[Qa];simp)
  refine hK2 _ _ _ ?_;(refine sR fun K hK=>?_;(repeat rw[Qa];simp));refine cXf [0,1] (hp) ?_;simp[zU]
  (repeat rw[Qa];simp)
  (refine hK _ _ _ ?_;clear hK K);(refine Qe ?_;(try simp only[zs]);refine Qk.ret rfl (.inr ⟨[],by decide,by simp,?_⟩);simp[zM])
  first | done | simp[Qb v]
 ·rw[e]at hp⊢;generalize Wx t=x at hp hki;have hEx:=Qb x;rw[hEx,Qb t,hk]at hp;rw[Qb t]at hsp;rw[hEx,Qb t,hk]at hki;rw[Qb t];unfold Wg headD Cs Wo Qar at hp;unfold Wg headD Cs Wo Qar;refine eN Tryz.func98 rfl (by decide) rfl rfl ?_;(refine sI fun K Z=>?_;(repeat rw[Qa];simp);refine Z ?_;clear Z K);(refine sR fun K hK=>?_;(repeat rw[Qa];simp));refine cXr (hsp) ?_
  (repeat rw[Qa];simp)
  (refine hK _ _ _ ?_;clear hK K);(refine Qc fun K hK=>?_;refine dR fun KT hKT=>?_;(repeat rw[Qd];simp[hk]));(refine hKT _ _ _ _ (by kernel_rfl) ?_;clear hKT KT);(refine hK _ _ _ ?_;clear hK K);refine Qc fun K1 hK1=>?_
  (refine sI fun K Z=>?_;(repeat rw[Qa];simp[hk]);refine Z ?_;clear Z K);refine pF rfl ?_;refine Qg (hK1 _ _ _ ?_);(refine sI fun K Z=>?_;(repeat rw[Qa];simp);refine Z ?_;clear Z K);refine Qc fun K2 hK2=>?_
  (refine sI fun K Z=>?_;(repeat rw[Qa];simp);refine Z ?_;clear Z K);refine pT rfl ?_;(refine Qi Wa ?_;(repeat rw[Qa];simp));refine cXr (hki) ?_
  (repeat rw[Qa];simp)
  refine hK2 _ _ _ ?_;(refine sR fun K hK=>?_;(repeat rw[Qa];simp));refine cXg [0,1] (hp) ?_;simp[zU];((try simp only[zs]);refine Qk.pan (.inr ⟨[],by decide,by simp,?_⟩);simp[zM])
theorem step_15(left:Int)(l:List C)(once done:Bool)(hl:left<=9223372036854775807)(t:T)(ht:okS t)(hk:t.k=15){i many:Nat}(hs:spot t=some (i,many))(hp:Sp 89 [.box 0 0,Qj t,Qj (Wx t)] (Wg left l once done) (Qe1 left l once done t (Qbn l t (Wx t)))):Sp 98 [.box 0 0,Qj t] (Wg left l once done) (Qe1 left l once done t (Qbn l t (Wx t))):=by
 have hsp:=Qa7 t ht.1.kl;rw[Qcn hs ht.1.kl]at hsp;have hki:=Zc t i i rfl;rw[<- Qb3 hs]at hki;rcases Qca left l once done t (Qbn l t (Wx t))with ⟨v,b,lf,e⟩ | e
 ·rw[e]at hp⊢;generalize Wx t=x at hp hki;have hEx:=Qb x;rw[hEx,Qb t,Qb v,hk]at hp;rw[Qb t]at hsp;rw[hEx,Qb t,hk]at hki;rw[Qb t];unfold Wg headD Cs Wo at hp⊢;refine eN Tryz.func98 rfl (by decide) rfl rfl ?_;(refine sI fun K Z=>?_;(repeat rw[Qa];simp);refine Z ?_;clear Z K);(refine sR fun K hK=>?_;(repeat rw[Qa];simp));refine cXr (hsp) ?_
  (repeat rw[Qa];simp)
  (refine hK _ _ _ ?_;clear hK K);(refine Qc fun K hK=>?_;refine dR fun KT hKT=>?_;(repeat rw[Qd];simp[hk]));(refine hKT _ _ _ _ (by kernel_rfl) ?_;clear hKT KT);(refine hK _ _ _ ?_;clear hK K);refine Qc fun K1 hK1=>?_
  (refine sI fun K Z=>?_;(repeat rw[Qa];simp[hk]);refine Z ?_;clear Z K);refine pF rfl ?_;refine Qg (hK1 _ _ _ ?_);(refine sI fun K Z=>?_;(repeat rw[Qa];simp);refine Z ?_;clear Z K);refine Qc fun K2 hK2=>?_
  (refine sI fun K Z=>?_;(repeat rw[Qa];simp);refine Z ?_;clear Z K);refine pT rfl ?_;(refine Qi Wa ?_;(repeat rw[Qa];simp));refine cXr (hki) ?_
  (repeat rw[Qa];simp)
  refine hK2 _ _ _ ?_;(refine sR fun K hK=>?_;(repeat rw[Qa];simp));refine cXf [0,1] (hp) ?_;simp[zU]
  (repeat rw[Qa];simp)
  (refine hK _ _ _ ?_;clear hK K);(refine Qe ?_;(try simp only[zs]);refine Qk.ret rfl (.inr ⟨[],by decide,by simp,?_⟩);simp[zM])
  first | done | simp[Qb v]
 ·rw[e]at hp⊢;generalize Wx t=x at hp hki;have hEx:=Qb x;rw[hEx,Qb t,hk]at hp;rw[Qb t]at hsp;rw[hEx,Qb t,hk]at hki;rw[Qb t];unfold Wg headD Cs Wo Qar at hp;unfold Wg headD Cs Wo Qar;refine eN Tryz.func98 rfl (by decide) rfl rfl ?_;(refine sI fun K Z=>?_;(repeat rw[Qa];simp);refine Z ?_;clear Z K);(refine sR fun K hK=>?_;(repeat rw[Qa];simp));refine cXr (hsp) ?_
  (repeat rw[Qa];simp)
  (refine hK _ _ _ ?_;clear hK K);(refine Qc fun K hK=>?_;refine dR fun KT hKT=>?_;(repeat rw[Qd];simp[hk]));(refine hKT _ _ _ _ (by kernel_rfl) ?_;clear hKT KT);(refine hK _ _ _ ?_;clear hK K);refine Qc fun K1 hK1=>?_
  (refine sI fun K Z=>?_;(repeat rw[Qa];simp[hk]);refine Z ?_;clear Z K);refine pF rfl ?_;refine Qg (hK1 _ _ _ ?_);(refine sI fun K Z=>?_;(repeat rw[Qa];simp);refine Z ?_;clear Z K);refine Qc fun K2 hK2=>?_
  (refine sI fun K Z=>?_;(repeat rw[Qa];simp);refine Z ?_;clear Z K);refine pT rfl ?_;(refine Qi Wa ?_;(repeat rw[Qa];simp));refine cXr (hki) ?_
  (repeat rw[Qa];simp)
  refine hK2 _ _ _ ?_;(refine sR fun K hK=>?_;(repeat rw[Qa];simp));refine cXg [0,1] (hp) ?_;simp[zU];((try simp only[zs]);refine Qk.pan (.inr ⟨[],by decide,by simp,?_⟩);simp[zM])
theorem step_18(left:Int)(l:List C)(once done:Bool)(hl:left<=9223372036854775807)(t:T)(ht:okS t)(hk:t.k=18){i many:Nat}(hs:spot t=some (i,many))(hp:Sp 92 [.box 0 0,Qj t,Qj (Wx t)] (Wg left l once done) (Qe1 left l once done t (Qbn l t (Wx t)))):Sp 98 [.box 0 0,Qj t] (Wg left l once done) (Qe1 left l once done t (Qbn l t (Wx t))):=by
 have hsp:=Qa7 t ht.1.kl;rw[Qcn hs ht.1.kl]at hsp;have hki:=Zc t i i rfl;rw[<- Qb3 hs]at hki;rcases Qca left l once done t (Qbn l t (Wx t))with ⟨v,b,lf,e⟩ | e
 ·rw[e]at hp⊢;generalize Wx t=x at hp hki;have hEx:=Qb x;rw[hEx,Qb t,Qb v,hk]at hp;rw[Qb t]at hsp;rw[hEx,Qb t,hk]at hki;rw[Qb t];unfold Wg headD Cs Wo at hp⊢;refine eN Tryz.func98 rfl (by decide) rfl rfl ?_;(refine sI fun K Z=>?_;(repeat rw[Qa];simp);refine Z ?_;clear Z K);(refine sR fun K hK=>?_;(repeat rw[Qa];simp));refine cXr (hsp) ?_
  (repeat rw[Qa];simp)
  (refine hK _ _ _ ?_;clear hK K);(refine Qc fun K hK=>?_;refine dR fun KT hKT=>?_;(repeat rw[Qd];simp[hk]));(refine hKT _ _ _ _ (by kernel_rfl) ?_;clear hKT KT);(refine hK _ _ _ ?_;clear hK K);refine Qc fun K1 hK1=>?_
  (refine sI fun K Z=>?_;(repeat rw[Qa];simp[hk]);refine Z ?_;clear Z K);refine pF rfl ?_;refine Qg (hK1 _ _ _ ?_);(refine sI fun K Z=>?_;(repeat rw[Qa];simp);refine Z ?_;clear Z K);refine Qc fun K2 hK2=>?_
  (refine sI fun K Z=>?_;(repeat rw[Qa];simp);refine Z ?_;clear Z K);refine pT rfl ?_;(refine Qi Wa ?_;(repeat rw[Qa];simp));refine cXr (hki) ?_
  (repeat rw[Qa];simp)
  refine hK2 _ _ _ ?_;(refine sR fun K hK=>?_;(repeat rw[Qa];simp));refine cXf [0,1] (hp) ?_;simp[zU]
  (repeat rw[Qa];simp)
  (refine hK _ _ _ ?_;clear hK K);(refine Qe ?_;(try simp only[zs]);refine Qk.ret rfl (.inr ⟨[],by decide,by simp,?_⟩);simp[zM])
  first | done | simp[Qb v]
 ·rw[e]at hp⊢;generalize Wx t=x at hp hki;have hEx:=Qb x;rw[hEx,Qb t,hk]at hp;rw[Qb t]at hsp;rw[hEx,Qb t,hk]at hki;rw[Qb t];unfold Wg headD Cs Wo Qar at hp;unfold Wg headD Cs Wo Qar;refine eN Tryz.func98 rfl (by decide) rfl rfl ?_;(refine sI fun K Z=>?_;(repeat rw[Qa];simp);refine Z ?_;clear Z K);(refine sR fun K hK=>?_;(repeat rw[Qa];simp));refine cXr (hsp) ?_
  (repeat rw[Qa];simp)
  (refine hK _ _ _ ?_;clear hK K);(refine Qc fun K hK=>?_;refine dR fun KT hKT=>?_;(repeat rw[Qd];simp[hk]));(refine hKT _ _ _ _ (by kernel_rfl) ?_;clear hKT KT);(refine hK _ _ _ ?_;clear hK K);refine Qc fun K1 hK1=>?_
  (refine sI fun K Z=>?_;(repeat rw[Qa];simp[hk]);refine Z ?_;clear Z K);refine pF rfl ?_;refine Qg (hK1 _ _ _ ?_);(refine sI fun K Z=>?_;(repeat rw[Qa];simp);refine Z ?_;clear Z K);refine Qc fun K2 hK2=>?_
  (refine sI fun K Z=>?_;(repeat rw[Qa];simp);refine Z ?_;clear Z K);refine pT rfl ?_;(refine Qi Wa ?_;(repeat rw[Qa];simp));refine cXr (hki) ?_
  (repeat rw[Qa];simp)
  refine hK2 _ _ _ ?_;(refine sR fun K hK=>?_;(repeat rw[Qa];simp));refine cXg [0,1] (hp) ?_;simp[zU];((try simp only[zs]);refine Qk.pan (.inr ⟨[],by decide,by simp,?_⟩);simp[zM])
theorem step_21(left:Int)(l:List C)(once done:Bool)(hl:left<=9223372036854775807)(t:T)(ht:okS t)(hk:t.k=21){i many:Nat}(hs:spot t=some (i,many))(hp:Sp 93 [.box 0 0,Qj t,Qj (Wx t)] (Wg left l once done) (Qe1 left l once done t (Qbn l t (Wx t)))):Sp 98 [.box 0 0,Qj t] (Wg left l once done) (Qe1 left l once done t (Qbn l t (Wx t))):=by
 have hsp:=Qa7 t ht.1.kl;rw[Qcn hs ht.1.kl]at hsp;have hki:=Zc t i i rfl;rw[<- Qb3 hs]at hki;rcases Qca left l once done t (Qbn l t (Wx t))with ⟨v,b,lf,e⟩ | e
 ·rw[e]at hp⊢;generalize Wx t=x at hp hki;have hEx:=Qb x;rw[hEx,Qb t,Qb v,hk]at hp;rw[Qb t]at hsp;rw[hEx,Qb t,hk]at hki;rw[Qb t];unfold Wg headD Cs Wo at hp⊢;refine eN Tryz.func98 rfl (by decide) rfl rfl ?_;(refine sI fun K Z=>?_;(repeat rw[Qa];simp);refine Z ?_;clear Z K);(refine sR fun K hK=>?_;(repeat rw[Qa];simp));refine cXr (hsp) ?_
  (repeat rw[Qa];simp)
  (refine hK _ _ _ ?_;clear hK K);(refine Qc fun K hK=>?_;refine dR fun KT hKT=>?_;(repeat rw[Qd];simp[hk]));(refine hKT _ _ _ _ (by kernel_rfl) ?_;clear hKT KT);(refine hK _ _ _ ?_;clear hK K);refine Qc fun K1 hK1=>?_
  (refine sI fun K Z=>?_;(repeat rw[Qa];simp[hk]);refine Z ?_;clear Z K);refine pF rfl ?_;refine Qg (hK1 _ _ _ ?_);(refine sI fun K Z=>?_;(repeat rw[Qa];simp);refine Z ?_;clear Z K);refine Qc fun K2 hK2=>?_
  (refine sI fun K Z=>?_;(repeat rw[Qa];simp);refine Z ?_;clear Z K);refine pT rfl ?_;(refine Qi Wa ?_;(repeat rw[Qa];simp));refine cXr (hki) ?_
  (repeat rw[Qa];simp)
  refine hK2 _ _ _ ?_;(refine sR fun K hK=>?_;(repeat rw[Qa];simp));refine cXf [0,1] (hp) ?_;simp[zU]
  (repeat rw[Qa];simp)
  (refine hK _ _ _ ?_;clear hK K);(refine Qe ?_;(try simp only[zs]);refine Qk.ret rfl (.inr ⟨[],by decide,by simp,?_⟩);simp[zM])
  first | done | simp[Qb v]
 ·rw[e]at hp⊢;generalize Wx t=x at hp hki;have hEx:=Qb x;rw[hEx,Qb t,hk]at hp;rw[Qb t]at hsp;rw[hEx,Qb t,hk]at hki;rw[Qb t];unfold Wg headD Cs Wo Qar at hp;unfold Wg headD Cs Wo Qar;refine eN Tryz.func98 rfl (by decide) rfl rfl ?_;(refine sI fun K Z=>?_;(repeat rw[Qa];simp);refine Z ?_;clear Z K);(refine sR fun K hK=>?_;(repeat rw[Qa];simp));refine cXr (hsp) ?_
  (repeat rw[Qa];simp)
  (refine hK _ _ _ ?_;clear hK K);(refine Qc fun K hK=>?_;refine dR fun KT hKT=>?_;(repeat rw[Qd];simp[hk]));(refine hKT _ _ _ _ (by kernel_rfl) ?_;clear hKT KT);(refine hK _ _ _ ?_;clear hK K);refine Qc fun K1 hK1=>?_
  (refine sI fun K Z=>?_;(repeat rw[Qa];simp[hk]);refine Z ?_;clear Z K);refine pF rfl ?_;refine Qg (hK1 _ _ _ ?_);(refine sI fun K Z=>?_;(repeat rw[Qa];simp);refine Z ?_;clear Z K);refine Qc fun K2 hK2=>?_
  (refine sI fun K Z=>?_;(repeat rw[Qa];simp);refine Z ?_;clear Z K);refine pT rfl ?_;(refine Qi Wa ?_;(repeat rw[Qa];simp));refine cXr (hki) ?_
  (repeat rw[Qa];simp)
  refine hK2 _ _ _ ?_;(refine sR fun K hK=>?_;(repeat rw[Qa];simp));refine cXg [0,1] (hp) ?_;simp[zU];((try simp only[zs]);refine Qk.pan (.inr ⟨[],by decide,by simp,?_⟩);simp[zM])
theorem step_24(left:Int)(l:List C)(once done:Bool)(hl:left<=9223372036854775807)(t:T)(ht:okS t)(hk:t.k=24){i many:Nat}(hs:spot t=some (i,many))(hp:Sp 94 [.box 0 0,Qj t,Qj (Wx t)] (Wg left l once done) (Qe1 left l once done t (Qbn l t (Wx t)))):Sp 98 [.box 0 0,Qj t] (Wg left l once done) (Qe1 left l once done t (Qbn l t (Wx t))):=by
 have hsp:=Qa7 t ht.1.kl;rw[Qcn hs ht.1.kl]at hsp;have hki:=Zc t i i rfl;rw[<- Qb3 hs]at hki;rcases Qca left l once done t (Qbn l t (Wx t))with ⟨v,b,lf,e⟩ | e
 ·rw[e]at hp⊢;generalize Wx t=x at hp hki;have hEx:=Qb x;rw[hEx,Qb t,Qb v,hk]at hp;rw[Qb t]at hsp;rw[hEx,Qb t,hk]at hki;rw[Qb t];unfold Wg headD Cs Wo at hp⊢;refine eN Tryz.func98 rfl (by decide) rfl rfl ?_;(refine sI fun K Z=>?_;(repeat rw[Qa];simp);refine Z ?_;clear Z K);(refine sR fun K hK=>?_;(repeat rw[Qa];simp));refine cXr (hsp) ?_
  (repeat rw[Qa];simp)
  (refine hK _ _ _ ?_;clear hK K);(refine Qc fun K hK=>?_;refine dR fun KT hKT=>?_;(repeat rw[Qd];simp[hk]));(refine hKT _ _ _ _ (by kernel_rfl) ?_;clear hKT KT);(refine hK _ _ _ ?_;clear hK K);refine Qc fun K1 hK1=>?_
  (refine sI fun K Z=>?_;(repeat rw[Qa];simp[hk]);refine Z ?_;clear Z K);refine pF rfl ?_;refine Qg (hK1 _ _ _ ?_);(refine sI fun K Z=>?_;(repeat rw[Qa];simp);refine Z ?_;clear Z K);refine Qc fun K2 hK2=>?_
  (refine sI fun K Z=>?_;(repeat rw[Qa];simp);refine Z ?_;clear Z K);refine pT rfl ?_;(refine Qi Wa ?_;(repeat rw[Qa];simp));refine cXr (hki) ?_
  (repeat rw[Qa];simp)
  refine hK2 _ _ _ ?_;(refine sR fun K hK=>?_;(repeat rw[Qa];simp));refine cXf [0,1] (hp) ?_;simp[zU]
  (repeat rw[Qa];simp)
  (refine hK _ _ _ ?_;clear hK K);(refine Qe ?_;(try simp only[zs]);refine Qk.ret rfl (.inr ⟨[],by decide,by simp,?_⟩);simp[zM])
  first | done | simp[Qb v]
 ·rw[e]at hp⊢;generalize Wx t=x at hp hki;have hEx:=Qb x;rw[hEx,Qb t,hk]at hp;rw[Qb t]at hsp;rw[hEx,Qb t,hk]at hki;rw[Qb t];unfold Wg headD Cs Wo Qar at hp;unfold Wg headD Cs Wo Qar;refine eN Tryz.func98 rfl (by decide) rfl rfl ?_;(refine sI fun K Z=>?_;(repeat rw[Qa];simp);refine Z ?_;clear Z K);(refine sR fun K hK=>?_;(repeat rw[Qa];simp));refine cXr (hsp) ?_
  (repeat rw[Qa];simp)
  (refine hK _ _ _ ?_;clear hK K);(refine Qc fun K hK=>?_;refine dR fun KT hKT=>?_;(repeat rw[Qd];simp[hk]));(refine hKT _ _ _ _ (by kernel_rfl) ?_;clear hKT KT);(refine hK _ _ _ ?_;clear hK K);refine Qc fun K1 hK1=>?_
  (refine sI fun K Z=>?_;(repeat rw[Qa];simp[hk]);refine Z ?_;clear Z K);refine pF rfl ?_;refine Qg (hK1 _ _ _ ?_);(refine sI fun K Z=>?_;(repeat rw[Qa];simp);refine Z ?_;clear Z K);refine Qc fun K2 hK2=>?_
  (refine sI fun K Z=>?_;(repeat rw[Qa];simp);refine Z ?_;clear Z K);refine pT rfl ?_;(refine Qi Wa ?_;(repeat rw[Qa];simp));refine cXr (hki) ?_
  (repeat rw[Qa];simp)
  refine hK2 _ _ _ ?_;(refine sR fun K hK=>?_;(repeat rw[Qa];simp));refine cXg [0,1] (hp) ?_;simp[zU];((try simp only[zs]);refine Qk.pan (.inr ⟨[],by decide,by simp,?_⟩);simp[zM])
theorem step_7(left:Int)(l:List C)(once done:Bool)(hl:left<=9223372036854775807)(t:T)(ht:okS t)(hk:t.k=7)(hs:spot t=none)(hp:Sp 90 [.box 0 0,Qj t,Qj (Wx t)] (Wg left l once done) (Qe1 left l once done t (Qbn l t (Wx t)))):Sp 98 [.box 0 0,Qj t] (Wg left l once done) (Qe1 left l once done t (Qbn l t (Wx t))):=by
 have hsp:=Qa7 t ht.1.kl;obtain⟨p,q,hpq⟩:=Qel hs;rw[hpq]at hsp;have hx0:=Qg9 hs;rcases Qca left l once done t (Qbn l t (Wx t))with ⟨v,b,lf,e⟩ | e
 ·rw[e]at hp⊢;generalize Wx t=x at hp hx0;have hEx:=Qb x;rw[hEx,Qb t,Qb v,hk]at hp;rw[Qb t]at hsp;subst hx0;rw[show(Xa:T).k=0 from rfl,show(Xa:T).n=0 from rfl,show(Xa:T).a=0 from rfl,show(Xa:T).ls= [] from rfl,show(Xa:T).ks= [] from rfl,List.map_nil,List.map_nil]at hp;rw[Qb t];unfold Wg headD Cs Wo at hp⊢;refine eN Tryz.func98 rfl (by decide) rfl rfl ?_;(refine sI fun K Z=>?_;(repeat rw[Qa];simp);refine Z ?_;clear Z K);(refine sR fun K hK=>?_;(repeat rw[Qa];simp));refine cXr (hsp) ?_
  (repeat rw[Qa];simp)
  (refine hK _ _ _ ?_;clear hK K);(refine Qc fun K hK=>?_;refine dR fun KT hKT=>?_;(repeat rw[Qd];simp[hk]));(refine hKT _ _ _ _ (by kernel_rfl) ?_;clear hKT KT);(refine hK _ _ _ ?_;clear hK K);refine Qc fun K1 hK1=>?_
  (refine sI fun K Z=>?_;(repeat rw[Qa];simp[hk]);refine Z ?_;clear Z K);refine pF rfl ?_;refine Qg (hK1 _ _ _ ?_);(refine sI fun K Z=>?_;(repeat rw[Qa];simp);refine Z ?_;clear Z K);refine Qc fun K2 hK2=>?_
  (refine sI fun K Z=>?_;(repeat rw[Qa];simp);refine Z ?_;clear Z K);refine pF rfl ?_;refine Qg (hK2 _ _ _ ?_);(refine sR fun K hK=>?_;(repeat rw[Qa];simp));refine cXf [0,1] (hp) ?_;simp[zU]
  (repeat rw[Qa];simp)
  (refine hK _ _ _ ?_;clear hK K);(refine Qe ?_;(try simp only[zs]);refine Qk.ret rfl (.inr ⟨[],by decide,by simp,?_⟩);simp[zM])
  first | done | simp[Qb v]
 ·rw[e]at hp⊢;generalize Wx t=x at hp hx0;have hEx:=Qb x;rw[hEx,Qb t,hk]at hp;rw[Qb t]at hsp;subst hx0;rw[show(Xa:T).k=0 from rfl,show(Xa:T).n=0 from rfl,show(Xa:T).a=0 from rfl,show(Xa:T).ls= [] from rfl,show(Xa:T).ks= [] from rfl,List.map_nil,List.map_nil]at hp;rw[Qb t];unfold Wg headD Cs Wo Qar at hp;unfold Wg headD Cs Wo Qar;refine eN Tryz.func98 rfl (by decide) rfl rfl ?_;(refine sI fun K Z=>?_;(repeat rw[Qa];simp);refine Z ?_;clear Z K);(refine sR fun K hK=>?_;(repeat rw[Qa];simp));refine cXr (hsp) ?_
  (repeat rw[Qa];simp)
  (refine hK _ _ _ ?_;clear hK K);(refine Qc fun K hK=>?_;refine dR fun KT hKT=>?_;(repeat rw[Qd];simp[hk]));(refine hKT _ _ _ _ (by kernel_rfl) ?_;clear hKT KT);(refine hK _ _ _ ?_;clear hK K);refine Qc fun K1 hK1=>?_
  (refine sI fun K Z=>?_;(repeat rw[Qa];simp[hk]);refine Z ?_;clear Z K);refine pF rfl ?_;refine Qg (hK1 _ _ _ ?_);(refine sI fun K Z=>?_;(repeat rw[Qa];simp);refine Z ?_;clear Z K);refine Qc fun K2 hK2=>?_
  (refine sI fun K Z=>?_;(repeat rw[Qa];simp);refine Z ?_;clear Z K);refine pF rfl ?_;refine Qg (hK2 _ _ _ ?_);(refine sR fun K hK=>?_;(repeat rw[Qa];simp));refine cXg [0,1] (hp) ?_;simp[zU];((try simp only[zs]);refine Qk.pan (.inr ⟨[],by decide,by simp,?_⟩);simp[zM])
theorem step_3(left:Int)(l:List C)(once done:Bool)(hl:left<=9223372036854775807)(t:T)(ht:okS t)(hk:t.k=3)(hs:spot t=none)(hp:Sp 91 [.box 0 0,Qj t,Qj (Wx t)] (Wg left l once done) (Qe1 left l once done t (Qbn l t (Wx t)))):Sp 98 [.box 0 0,Qj t] (Wg left l once done) (Qe1 left l once done t (Qbn l t (Wx t))):=by
 have hsp:=Qa7 t ht.1.kl;obtain⟨p,q,hpq⟩:=Qel hs;rw[hpq]at hsp;have hx0:=Qg9 hs;rcases Qca left l once done t (Qbn l t (Wx t))with ⟨v,b,lf,e⟩ | e
 ·rw[e]at hp⊢;generalize Wx t=x at hp hx0;have hEx:=Qb x;rw[hEx,Qb t,Qb v,hk]at hp;rw[Qb t]at hsp;subst hx0;rw[show(Xa:T).k=0 from rfl,show(Xa:T).n=0 from rfl,show(Xa:T).a=0 from rfl,show(Xa:T).ls= [] from rfl,show(Xa:T).ks= [] from rfl,List.map_nil,List.map_nil]at hp;rw[Qb t];unfold Wg headD Cs Wo at hp⊢;refine eN Tryz.func98 rfl (by decide) rfl rfl ?_;(refine sI fun K Z=>?_;(repeat rw[Qa];simp);refine Z ?_;clear Z K);(refine sR fun K hK=>?_;(repeat rw[Qa];simp));refine cXr (hsp) ?_
  (repeat rw[Qa];simp)
  (refine hK _ _ _ ?_;clear hK K);(refine Qc fun K hK=>?_;refine dR fun KT hKT=>?_;(repeat rw[Qd];simp[hk]));(refine hKT _ _ _ _ (by kernel_rfl) ?_;clear hKT KT);(refine hK _ _ _ ?_;clear hK K);refine Qc fun K1 hK1=>?_
  (refine sI fun K Z=>?_;(repeat rw[Qa];simp[hk]);refine Z ?_;clear Z K);refine pF rfl ?_;refine Qg (hK1 _ _ _ ?_);(refine sI fun K Z=>?_;(repeat rw[Qa];simp);refine Z ?_;clear Z K);refine Qc fun K2 hK2=>?_
  (refine sI fun K Z=>?_;(repeat rw[Qa];simp);refine Z ?_;clear Z K);refine pF rfl ?_;refine Qg (hK2 _ _ _ ?_);(refine sR fun K hK=>?_;(repeat rw[Qa];simp));refine cXf [0,1] (hp) ?_;simp[zU]
  (repeat rw[Qa];simp)
  (refine hK _ _ _ ?_;clear hK K);(refine Qe ?_;(try simp only[zs]);refine Qk.ret rfl (.inr ⟨[],by decide,by simp,?_⟩);simp[zM])
  first | done | simp[Qb v]
 ·rw[e]at hp⊢;generalize Wx t=x at hp hx0;have hEx:=Qb x;rw[hEx,Qb t,hk]at hp;rw[Qb t]at hsp;subst hx0;rw[show(Xa:T).k=0 from rfl,show(Xa:T).n=0 from rfl,show(Xa:T).a=0 from rfl,show(Xa:T).ls= [] from rfl,show(Xa:T).ks= [] from rfl,List.map_nil,List.map_nil]at hp;rw[Qb t];unfold Wg headD Cs Wo Qar at hp;unfold Wg headD Cs Wo Qar;refine eN Tryz.func98 rfl (by decide) rfl rfl ?_;(refine sI fun K Z=>?_;(repeat rw[Qa];simp);refine Z ?_;clear Z K);(refine sR fun K hK=>?_;(repeat rw[Qa];simp));refine cXr (hsp) ?_
  (repeat rw[Qa];simp)
  (refine hK _ _ _ ?_;clear hK K);(refine Qc fun K hK=>?_;refine dR fun KT hKT=>?_;(repeat rw[Qd];simp[hk]));(refine hKT _ _ _ _ (by kernel_rfl) ?_;clear hKT KT);(refine hK _ _ _ ?_;clear hK K);refine Qc fun K1 hK1=>?_
  (refine sI fun K Z=>?_;(repeat rw[Qa];simp[hk]);refine Z ?_;clear Z K);refine pF rfl ?_;refine Qg (hK1 _ _ _ ?_);(refine sI fun K Z=>?_;(repeat rw[Qa];simp);refine Z ?_;clear Z K);refine Qc fun K2 hK2=>?_
  (refine sI fun K Z=>?_;(repeat rw[Qa];simp);refine Z ?_;clear Z K);refine pF rfl ?_;refine Qg (hK2 _ _ _ ?_);(refine sR fun K hK=>?_;(repeat rw[Qa];simp));refine cXg [0,1] (hp) ?_;simp[zU];((try simp only[zs]);refine Qk.pan (.inr ⟨[],by decide,by simp,?_⟩);simp[zM])
theorem Wcp(left:Int)(l:List C)(once done:Bool)(hl:left<=9223372036854775807)(t:T)(ht:okS t)(hk:t.k=24)(hs:spot t=none):Sp 98 [.box 0 0,Qj t] (Wg left l once done) (Qe1 left l once done t (Qbn l t (Wx t))):=by
 have hw:Qbn l t (Wx t)=none:=by
  unfold Qbn;rw[if_neg (by omega),if_neg (by omega),if_neg (by omega),if_neg (by omega),if_neg (by omega),if_neg (by omega),if_neg (by rw[hs];simp)]
 rw[hw];have hsp:=Qa7 t ht.1.kl;obtain⟨p,q,hpq⟩:=Qel hs;rw[hpq]at hsp;unfold Qe1 Wg headD Cs Wo;rw[Qb t]at hsp;rw[Qb t];refine eN Tryz.func98 rfl (by decide) rfl rfl ?_;(refine sI fun K Z=>?_;(repeat rw[Qa];simp);refine Z ?_;clear Z K);(refine sR fun K hK=>?_;(repeat rw[Qa];simp));refine cXr (hsp) ?_
 (repeat rw[Qa];simp)
 (refine hK _ _ _ ?_;clear hK K);(refine Qc fun K hK=>?_;refine dR fun KT hKT=>?_;(repeat rw[Qd];simp[hk]));(refine hKT _ _ _ _ (by kernel_rfl) ?_;clear hKT KT);(refine hK _ _ _ ?_;clear hK K);refine Qc fun K1 hK1=>?_
 (refine sI fun K Z=>?_;(repeat rw[Qa];simp[hk]);refine Z ?_;clear Z K);refine pT rfl ?_;(refine sI fun K Z=>?_;(repeat rw[Qa];simp);refine Z ?_;clear Z K);(refine Qe ?_;(try simp only[zs]);refine Qk.ret rfl (.inr ⟨[],by decide,by simp,?_⟩);simp[zM])
 first | done | simp[Qb t,hk]
theorem find_no(k:Int)(h6:¬ k=6)(h14:¬ k=14)(h15:¬ k=15)(h7:¬ k=7)(h3:¬ k=3)(h18:¬ k=18)(h21:¬ k=21)(h24:¬ k=24):Qcg (.int .i64 k) [(.int .i64 6, .fn (.func 88) [.box 0 0] []),(.int .i64 14, .fn (.func 89) [.box 0 0] []),(.int .i64 15, .fn (.func 89) [.box 0 0] []),(.int .i64 7, .fn (.func 90) [.box 0 0] []),
 (.int .i64 3, .fn (.func 91) [.box 0 0] []),(.int .i64 18, .fn (.func 92) [.box 0 0] []),(.int .i64 21, .fn (.func 93) [.box 0 0] []),(.int .i64 24, .fn (.func 94) [.box 0 0] [])]=none:=by
 simp[Qcg,Qd0,h6,h14,h15,h7,h3,h18,h21,h24]
theorem step_no(left:Int)(l:List C)(once done:Bool)(hl:left<=9223372036854775807)(t:T)(ht:okS t)(h6:¬ t.k=6)(h14:¬ t.k=14)(h15:¬ t.k=15)(h7:¬ t.k=7)(h3:¬ t.k=3)(h18:¬ t.k=18)(h21:¬ t.k=21)(h24:¬ t.k=24):Sp 98 [.box 0 0,Qj t] (Wg left l once done) (Qe1 left l once done t (Qbn l t (Wx t))):=by
 have hw:Qbn l t (Wx t)=none:=by
  unfold Qbn;rw[if_neg h6,if_neg (by omega),if_neg h7,if_neg h3,if_neg h18,if_neg h21,if_neg (fun h=>h24 h.1)]
 rw[hw];have hs:spot t=none:=by
  unfold spot;rw[if_neg h6,if_neg (by omega),if_neg h18,if_neg h21,if_neg (fun h=>h24 h.1)]
 have hfd:=find_no t.k h6 h14 h15 h7 h3 h18 h21 h24;have hsp:=Qa7 t ht.1.kl;obtain⟨p,q,hpq⟩:=Qel hs;rw[hpq]at hsp;unfold Qe1 Wg headD Cs Wo;rw[Qb t]at hsp;rw[Qb t];refine eN Tryz.func98 rfl (by decide) rfl rfl ?_;(refine sI fun K Z=>?_;(repeat rw[Qa];simp);refine Z ?_;clear Z K);(refine sR fun K hK=>?_;(repeat rw[Qa];simp));refine cXr (hsp) ?_
 (repeat rw[Qa];simp)
 (refine hK _ _ _ ?_;clear hK K);(refine Qc fun K hK=>?_;refine dR fun KT hKT=>?_;(repeat rw[Qd];simp[hfd,Qbr,h24]));(refine hKT _ _ _ _ (by kernel_rfl) ?_;clear hKT KT);(refine hK _ _ _ ?_;clear hK K);refine Qc fun K1 hK1=>?_
 (refine sI fun K Z=>?_;(repeat rw[Qa];simp[hfd,Qbr,h24]);refine Z ?_;clear Z K);refine pT rfl ?_;(refine sI fun K Z=>?_;(repeat rw[Qa];simp);refine Z ?_;clear Z K);(refine Qe ?_;(try simp only[zs]);refine Qk.ret rfl (.inr ⟨[],by decide,by simp,?_⟩);simp[zM])
 first | done | simp[Qb t]
theorem Qx8(left:Int)(l:List C)(once done:Bool)(hl:left<=9223372036854775807)(hcs:okCs l)(t:T)(ht:okS t):Sp 98 [.box 0 0,Qj t] (Wg left l once done) (Qe1 left l once done t (Qbn l t (Wx t))):=by
 have hz:okS Xa:=⟨Qc6,by rw[Qdg];unfold PM;omega⟩;have hx:okS (Wx t):=by
  rcases Qee t with h | ⟨i,many,h⟩
  ·rw[Qg9 h];exact hz
  ·rw[Qb3 h];exact ht.kid i
 by_cases h6:t.k=6
 ·exact step_6 left l once done hl t ht h6 (i:=0) (many:=2) (by unfold spot;rw[if_pos h6]) (Wag left l once done hl t _ ht hx h6)
 by_cases h14:t.k=14
 ·exact step_14 left l once done hl t ht h14 (i:=0) (many:=1) (by unfold spot;rw[if_neg h6,if_pos (.inl h14)]) (Qmx left l once done hl t _ hx (.inl h14))
 by_cases h15:t.k=15
 ·exact step_15 left l once done hl t ht h15 (i:=0) (many:=1) (by unfold spot;rw[if_neg h6,if_pos (.inr h15)]) (Qmx left l once done hl t _ hx (.inr h15))
 have h145:¬ (t.k=14\/t.k=15):=by omega
 by_cases h18:t.k=18
 ·exact step_18 left l once done hl t ht h18 (i:=4) (many:=5) (by unfold spot;rw[if_neg h6,if_neg h145,if_pos h18]) (Qwz left l once done hl t _ ht hx h18)
 by_cases h21:t.k=21
 ·exact step_21 left l once done hl t ht h21 (i:=5) (many:=6) (by unfold spot;rw[if_neg h6,if_neg h145,if_neg h18,if_pos h21]) (Qw0 left l once done hl t _ ht h21)
 by_cases h24:t.k=24
 ·rcases Qee t with h | ⟨i,many,h⟩
  ·exact Wcp left l once done hl t ht h24 h
  ·exact step_24 left l once done hl t ht h24 h (Qqk left l once done hl t _ ht hx h24 (by rw[h];rfl))
 have hs:spot t=none:=by unfold spot;rw[if_neg h6,if_neg h145,if_neg h18,if_neg h21,if_neg (fun h=>h24 h.1)]
 by_cases h7:t.k=7
 ·exact step_7 left l once done hl t ht h7 hs (Wab left l once done hl t _ ht h7)
 by_cases h3:t.k=3
 ·exact step_3 left l once done hl t ht h3 hs (Qst left l once done hl hcs t _ ht h3)
 exact step_no left l once done hl t ht h6 h14 h15 h7 h3 h18 h21 h24
end Go.Proofs.YtgloldepdhgfaaaGreatDoor
namespace Go.Proofs.YtgloldepdhgfaaaGreatDoor
set_option linter.unusedSimpArgs false
set_option linter.unusedVariables false
open Go.RowKit
def RetP(l:List C)(u:T)(lf:Int)(d:Bool):Out ->List HO ->Prop:=fun o hc=>o.fgt= .ret (Qj u)/\hc=Wg lf l false d
def Qxm:Out ->List HO ->Prop:=fun o hc=>o= .pan Qar/\hc= [.dead, .dead]
inductive RunH (l : List C) : T -> Int -> Bool -> (Out -> List HO -> Prop) -> Prop where
 | fin {t u:T} {n:Nat} {lf:Int} {d:Bool} (h:Hd l t n u) (hn:(n:Int)<=lf):RunH l t lf d (RetP l u (lf - n) (d || decide (0<n)))
 | gone {t:T} {lf q:Int} {d:Bool} (h:GoneAt l t lf q):RunH l t lf d Qxm
def Qth(l:List C)(t:T):Prop:=hstep l t=Qbn l t (Wx t)/\t.trunc=t
theorem Qth.none{l:List C}{t:T}(h:spot t=none):Qth l t:=⟨by rw[Qcr h];unfold Wx;rw[h],Qbc h⟩
theorem Qth.some{l:List C}{t v:T}{i many:Nat}(hs:spot t=some (i,many)){m:Nat}{x:T}(h:Hd l x m v):Qth l (t.withT v i many):=by
 obtain⟨h1,h2⟩:=h.done;obtain⟨h3,h4⟩:=ready hs h1 h2;exact⟨by rw[h3,Qwc hs],h4⟩
theorem RunH.place{l:List C}{t:T}{lf:Int}{d:Bool}{P:Out ->List HO ->Prop}(h:RunH l t lf d P)(h0:0<=lf){i many:Nat}(hs:spot t=some (i,many)) :
  (∃q,GoneAt l (t.kid i) lf q/\P=Qxm)\/∃m v,Hd l (t.kid i) m v/\(m:Int)<=lf/\Qth l (t.withT v i many)/\RunH l (t.withT v i many) (lf - m) (d || decide (0<m)) P:=by
 cases h with
 | fin h hn =>
  rename_i u n;obtain⟨m,v,h1,h2,h3⟩:=h.place hs;refine .inr ⟨m,v,h1,by omega, .some hs h1,?_⟩;have:=RunH.fin (lf:=lf - m) (d:=d || decide (0<m)) h3 (by omega);rw[show lf - (m:Int) - ((n - m:Nat):Int)=lf - n by omega,Bool.or_assoc,show(decide (0<m) || decide (0<n - m))=decide (0<n) by rw[<- Bool.decide_or];apply decide_eq_decide.2;omega]at this;exact this
 | gone h =>
  rcases h.place h0 hs with h1 | ⟨m,v,h1,h2,h3⟩
  ·exact .inl ⟨_,h1,rfl⟩
  ·exact .inr ⟨m,v,h1,h2, .some hs h1, .gone h3⟩
theorem RunH.own{l:List C}{t:T}{lf:Int}{d:Bool}{P:Out ->List HO ->Prop}(h:RunH l t lf d P)(hr:Qth l t) :
  match Qbn l t (Wx t)with
  | none=>P=RetP l t lf d
  | some p=>if(p.2:Int)<=lf then RunH l p.1 (lf - p.2) true P else P=Qxm:=by
 rw[<- hr.1];cases h with
 | fin h hn =>
  rename_i u n;cases h with
  | stop h=>rw[h];simp only;rw[hr.2];simp
  | @step _ w _ c n h r =>
   have:=Qib t h;rw[h];simp only;rw[if_pos (by omega)];have:=RunH.fin (lf:=lf - c) (d:=true) r (by omega);rw[show lf - (c:Int) - (n:Int)=lf - ((c+n:Nat):Int) by omega,Bool.true_or]at this;rw[show(d || decide (0<c+n))=true by rw[decide_eq_true (by omega),Bool.or_true]];exact this
 | gone h =>
  cases h with
  | now h hf=>rw[h];simp only;rw[if_neg (by omega)];trivial
  | later h hf r=>rw[h];simp only;rw[if_pos hf];exact .gone r
theorem Hd.pot{l:List C}{t u:T}{n:Nat}(h:Hd l t n u):u.pot<=t.pot+7 * n:=by
 induction h with
 | stop h=>have:=Qo9 ‹T›;omega
 | step h r ih=>have:=Qqg _ h;omega
theorem Hd.ok{l:List C}(hl:∀c,c∈l ->okC c){t u:T}{n:Nat}(h:Hd l t n u):okT t ->okT u:=by
 induction h with
 | stop h=>exact Qni _
 | step h r ih=>intro ht;exact ih (Qum hl _ ht h)
def mu(t:T):Nat:=if spot t=none then 0 else t.deep+1
theorem mu_kid{t:T}{i many:Nat}(hs:spot t=some (i,many)):mu (t.kid i)<mu t:=by
 have h0:mu t=t.deep+1:=by unfold mu;rw[if_neg (by rw[hs];simp)]
 rw[h0];by_cases hi:i<t.ks.length
 ·rw[Quk hi];have hd:(t.ks[i]).deep+1<=t.deep:=by
   cases t with
   | mk k n a ls ks=>exact T.deep_kid (List.getElem_mem hi)
  unfold mu;split <;> omega
 ·rw[Qso hi];unfold mu;rw[if_pos Qfo];omega
end Go.Proofs.YtgloldepdhgfaaaGreatDoor
namespace Go.Proofs.YtgloldepdhgfaaaGreatDoor
set_option linter.unusedSimpArgs false
set_option linter.unusedVariables false
set_option maxHeartbeats 10000000
set_option maxRecDepth 20000
open Go.RowKit
attribute [local simp] Qx Qm Qo Qp Wn Xg opD Wc Qr Qw Wi hOf Wj Xf Xd TK.isAgg TK.known Ws Wk Qz Qh D.ofV inB Qy Wp Xy Za Zg Xc Xw Zh IntKind.min IntKind.max IntKind.signed IntKind.bits Wm Xz
theorem Qqj{l:List C}(hcs:okCs l)(N:Nat):∀(k:Nat) (t:T) (left:Int) (done:Bool) (P:Out ->List HO ->Prop),0<=left ->left.toNat=N ->mu t=k ->okT t ->t.pot+7 * left.toNat<=PM ->RunH l t left done P ->
  Sp 49 [.box 0 0,Qj t] (Wg left l false done) P:=by
 induction N using Nat.strongRecOn with
 | ind N ihN =>
 intro k
 induction k using Nat.strongRecOn with
 | ind k ihk =>
 intro t left done P h0 hN hk ht hpot hrun;have hrec:∀(t':T) (lf:Int) (d:Bool) (P':Out ->List HO ->Prop),0<=lf ->(lf<left\/(lf=left/\mu t'<mu t)) ->okT t' ->t'.pot+7 * lf.toNat<=PM ->RunH l t' lf d P' ->Sp 49 [.box 0 0,Qj t'] (Wg lf l false d) P':=by
  intro t' lf d P' g0 gc gt gp gr;rcases gc with gc | ⟨rfl,gc⟩
  ·exact ihN lf.toNat (by omega) (mu t') t' lf d P' g0 rfl rfl gt gp gr
  ·exact ihk (mu t') (by omega) t' lf d P' g0 hN rfl gt gp gr
 clear ihN ihk;rw[Qb t];unfold Wg headD Cs Wo;refine eN Tryz.func49 rfl (by decide) rfl rfl ?_;(refine sI fun K Z=>?_;(repeat rw[Qa];simp);refine Z ?_;clear Z K);refine Wd ?_;refine Qvi Qf [5,6,7,8,9,10,11,12,13,14,15,16,17,18,19,20,21,22,23,24,25,26,27,28,29,30,31,32,33,34,35,36,37,38,39,40,41,42,43,44,45,46,47,48,49,50,51,52,53,54] [] (fun n ys hl=>∃(t':T) (lf:Int) (d:Bool),ys= []/\n=lf.toNat/\0<=lf/\(lf=left/\t'=t\/lf<left)/\okT t'/\t'.pot+7 * lf.toNat<=PM/\RunH l t' lf d P/\hl= [.cells 93 [.int .i64 lf, .slice (l.map Qbj) .any, .bool false, .bool d, .map 1], .mp [(.int .i64 6, .fn (.func 88) [.box 0 0] []),(.int .i64 14, .fn (.func 89) [.box 0 0] []),(.int .i64 15, .fn (.func 89) [.box 0 0] []),(.int .i64 7, .fn (.func 90) [.box 0 0] []),(.int .i64 3, .fn (.func 91) [.box 0 0] []),(.int .i64 18, .fn (.func 92) [.box 0 0] []),(.int .i64 21, .fn (.func 93) [.box 0 0] []),(.int .i64 24, .fn (.func 94) [.box 0 0] [])], .cells 27 [.int .i64 t'.k, .int .i64 t'.n, .int .i64 t'.a, .slice (t'.ls.map Qn) .any, .slice (t'.ks.map Qj) .any], .cells 27 [.int .i64 0, .int .i64 0, .int .i64 0, .slice [] .full, .slice [] .full]]) (left.toNat) (by kernel_rfl) ?_ ?_
 ·exact⟨t,left,done,rfl,rfl,h0, .inl ⟨rfl,rfl⟩,ht,hpot,hrun,rfl⟩
 ·rintro n ys hl A hA hA2 ⟨t',lf,d,rfl,hn,h0',hcase,ht',hp',hrun',rfl⟩;have hle:lf<=left:=by omega
  have hlf:lf<=9223372036854775807:=by unfold PM at hp';omega
  simp only[Qh,List.set,List.map_cons,List.map_nil,List.cons_append,List.nil_append];refine Wd ?_;refine Wb6 (α:=T×Int×Bool) [5,6,7,10,11,12,13,14,15,16,17,18,19,20,21,22,23,24,25,26,27,28,29,30,31,32,33,34,35] (fun _=> [5,6,7,10,11,12,13,14,15,16,17,18,19,20,21,22,23,24,25,26,27,28,29,30,31,32,33,34,35].map fun _=> .junk) (fun a=> [.cells 93 [.int .i64 a.2.1, .slice (l.map Qbj) .any, .bool false, .bool a.2.2, .map 1], .mp [(.int .i64 6, .fn (.func 88) [.box 0 0] []),(.int .i64 14, .fn (.func 89) [.box 0 0] []),(.int .i64 15, .fn (.func 89) [.box 0 0] []),(.int .i64 7, .fn (.func 90) [.box 0 0] []),(.int .i64 3, .fn (.func 91) [.box 0 0] []),(.int .i64 18, .fn (.func 92) [.box 0 0] []),(.int .i64 21, .fn (.func 93) [.box 0 0] []),(.int .i64 24, .fn (.func 94) [.box 0 0] [])], .cells 27 [.int .i64 a.1.k, .int .i64 a.1.n, .int .i64 a.1.a, .slice (a.1.ls.map Qn) .any, .slice (a.1.ks.map Qj) .any], .cells 27 [.int .i64 0, .int .i64 0, .int .i64 0, .slice [] .full, .slice [] .full]]) (fun a=>0<=a.2.1/\a.2.1<=lf/\okT a.1/\a.1.pot+7 * a.2.1.toNat<=PM/\RunH l a.1 a.2.1 a.2.2 P/\Qth l a.1) ?_ ?_
  rotate_left
  ·intro K hK0;rcases Qee t' with hs | ⟨i,many,hs⟩
   ·obtain⟨p,q,hpq⟩:=Qel hs;have hsp:=Qa7 t' ht'.kl;rw[hpq,Qb t']at hsp;(refine sR fun K hK=>?_;(repeat rw[Qa];simp));refine cXr (hsp) ?_
    (repeat rw[Qa];simp)
    (refine hK _ _ _ ?_;clear hK K);(refine sI fun K Z=>?_;(repeat rw[Qa];simp);refine Z ?_;clear Z K);refine pF rfl ?_;refine Qg (hK0 (t',lf,d) _ ⟨h0',Int.le_refl _,ht',hp',hrun', .none hs⟩ ?_);simp[leT,Qh]
   ·have hsp:=Qa7 t' ht'.kl;rw[Qcn hs ht'.kl,Qb t']at hsp;have hki:=Zc t' i i rfl;have hmu:=mu_kid hs;have hkp:=Qbt t' i;have hcs2:lf<left\/(lf=left/\mu (t'.kid i)<mu t):=by
     rcases hcase with ⟨e1,e2⟩ | h
     ·subst e2;exact .inr ⟨e1,hmu⟩
     ·exact .inl h
    rcases hrun'.place h0' hs with ⟨q,hq,hP⟩ | ⟨m,v,hv,hm,hrd,hrun2⟩
    ·subst hP;have hre:=hrec (t'.kid i) lf d Qxm h0' hcs2 (Qah ht' i) (by omega) (.gone hq);generalize t'.kid i=y at hki hre;rw[Qb t',Qb y]at hki;rw[Qb y]at hre;unfold Qxm Wg headD Cs Wo Qar at hre;(refine sR fun K hK=>?_;(repeat rw[Qa];simp));refine cXr (hsp) ?_
     (repeat rw[Qa];simp)
     (refine hK _ _ _ ?_;clear hK K);(refine sI fun K Z=>?_;(repeat rw[Qa];simp);refine Z ?_;clear Z K);refine pT rfl ?_;(refine Qc fun K hK=>?_;refine dR fun KT hKT=>?_;(repeat rw[Qd];simp));refine cYp (hki) ?_;(try simp only[zq]);(repeat rw[Qd];simp);refine cYo [0,1] true false (hre) (fun o h e=>e) ?_;simp[zU];(try simp only[Qt,Qu,Qr,Qw,Wi])
     (rw[Qd,if_neg (Bool.eq_false_iff.mp (by kernel_rfl))];simp)
     (rw[Qd,if_neg (Bool.eq_false_iff.mp (by kernel_rfl))];simp)
     ((try simp only[Qt,Qu,Qr,Qw,Wi]);(repeat(refine Wr _ _ _ _ (by kernel_rfl) ?_;simp only[Qr,List.set,List.nil_append,List.cons_append,Nat.reduceAdd]));(try simp only[Qm]));(refine hKT _ _ _ _ (by kernel_rfl) ?_;clear hKT KT);simp[Xi];((try simp only[zs]);refine Qk.pan (.inr ⟨[],by decide,by simp,?_⟩);simp[zM]);exact⟨rfl,rfl⟩
    ·have hre:=hrec (t'.kid i) lf d _ h0' hcs2 (Qah ht' i) (by omega) (.fin hv hm);have hw:=Qxw t' v i many (Qdp hs ht');have hvo:=hv.ok hcs.ok (Qah ht' i);have hvp:=hv.pot;have hwp:=Qjv (x:=v) hs;have hwo:=Qip (i:=i) ht' hvo (Qdp hs ht');generalize hy:t'.kid i=y at hki hre hvp hwp hkp;generalize hu:t'.withT v i many=u at hw hrd hrun2 hwp hwo;rw[Qb t',Qb y]at hki;unfold RetP Wg headD Cs Wo at hre;rw[Qb y,Qb v]at hre;rw[Qb t',Qb v,Qb u]at hw;generalize hd1:(d || decide (0<m))=d1 at hre hrun2;(refine sR fun K hK=>?_;(repeat rw[Qa];simp));refine cXr (hsp) ?_
     (repeat rw[Qa];simp)
     (refine hK _ _ _ ?_;clear hK K);(refine sI fun K Z=>?_;(repeat rw[Qa];simp);refine Z ?_;clear Z K);refine pT rfl ?_;(refine Qc fun K hK=>?_;refine dR fun KT hKT=>?_;(repeat rw[Qd];simp));refine cYp (hki) ?_;(try simp only[zq]);(repeat rw[Qd];simp);refine cYo [0,1] true true (hre) (fun o h e=>e) ?_;simp[zU];(try simp only[zq]);(repeat rw[Qd];simp);refine cYp (hw) ?_;(try simp only[zq]);(repeat rw[Qd];simp);(refine hKT _ _ _ _ (by kernel_rfl) ?_;clear hKT KT);(refine hK _ _ _ ?_;clear hK K);(refine sI fun K Z=>?_;(repeat rw[Qa];simp);refine Z ?_;clear Z K);refine pF rfl ?_;refine Qg (hK0 (u,lf - m,d1) _ ⟨by simp only;omega,by simp only;omega,hwo,by simp only;omega,hrun2,hrd⟩ ?_);simp[leT,Qh]
  ·rintro⟨t1,lf1,d1⟩ ⟨g0,gle,gt,gp,grun,grd⟩;simp only at g0 gle gt gp grun grd;simp only[Qh,List.set,List.map_cons,List.map_nil,List.cons_append,List.nil_append];have hst:=Qx8 lf1 l false d1 (by omega) hcs t1 ⟨gt,by omega⟩;have hown:=grun.own grd;have hrd:=grd.1;cases ho:Qbn l t1 (Wx t1)with
   | none =>
    rw[ho]at hst hown;simp only at hown;subst hown;unfold Qe1 Wg headD Cs Wo at hst;rw[Qb t1]at hst;(refine sR fun K hK=>?_;(repeat rw[Qa];simp));refine cXf [0,1] (hst) ?_;simp[zU]
    (repeat rw[Qa];simp)
    (refine hK _ _ _ ?_;clear hK K);refine Qc fun K1 hK1=>?_
    (refine sI fun K Z=>?_;(repeat rw[Qa];simp);refine Z ?_;clear Z K);refine pT rfl ?_;(refine sI fun K Z=>?_;(repeat rw[Qa];simp);refine Z ?_;clear Z K);(refine Qe ?_;(try simp only[zs]);refine Qk.ret rfl (.inr ⟨[],by decide,by simp,?_⟩);simp[zM]);refine⟨?_,rfl⟩;simp[Out.fgt,Qb t1,D.fgt,D.fgts]
   | some p =>
    obtain⟨w,c⟩:=p;rw[ho]at hst hown hrd;simp only at hown;unfold Qe1 at hst;simp only at hst;by_cases hc:(c:Int)<=lf1
    ·rw[if_pos hc]at hown;rw[Qa5 hc]at hst;unfold Wg headD Cs Wo at hst;rw[Qb t1,Qb w]at hst;have hpos:=Qib t1 hrd;have hwo:=Qum hcs.ok t1 gt hrd;have hwp:=Qqg t1 hrd;(refine sR fun K hK=>?_;(repeat rw[Qa];simp));refine cXf [0,1] (hst) ?_;simp[zU]
     (repeat rw[Qa];simp)
     (refine hK _ _ _ ?_;clear hK K);refine Qc fun K1 hK1=>?_
     (refine sI fun K Z=>?_;(repeat rw[Qa];simp);refine Z ?_;clear Z K);refine pF rfl ?_;refine Qg (hK1 _ _ _ ?_);(refine sI fun K Z=>?_;(repeat rw[Qa];simp);refine Z ?_;clear Z K);(refine sI fun K Z=>?_;(repeat rw[Qa];simp);refine Z ?_;clear Z K);refine pF rfl ?_;refine Qg ?_;(refine hA2 ([2,3]) ((lf1 - c).toNat) _ _ _ (LeT.refl _) (by decide) (by simp) (by omega) (by simp[zM,Qh]) ?_;simp[zM]);exact⟨w,lf1 - c,by omega,by omega, .inr (by omega),hwo,by omega,hown,rfl,rfl,rfl,rfl,rfl,rfl⟩
    ·rw[if_neg hc]at hown;subst hown;rw[Qa6 hc]at hst;unfold Wg headD Cs Wo Qar at hst;rw[Qb t1]at hst;(refine sR fun K hK=>?_;(repeat rw[Qa];simp));refine cXg [0,1] (hst) ?_;simp[zU];((try simp only[zs]);refine Qk.pan (.inr ⟨[],by decide,by simp,?_⟩);simp[zM]);exact⟨rfl,rfl⟩
theorem Quo(l:List C)(f:Int):Sp 48 [Cs l, .int .i64 f] [] (fun o hc=>o= .ret (.box 0 0)/\hc=Wg f l false false):=by
 unfold Wg headD Cs Wo;have L0:0<Ql:=by unfold Ql;omega
 have L1:1<Ql:=by unfold Ql;omega
 have L2:2<Ql:=by unfold Ql;omega
 have L3:3<Ql:=by unfold Ql;omega
 have L4:4<Ql:=by unfold Ql;omega
 have L5:5<Ql:=by unfold Ql;omega
 have L6:6<Ql:=by unfold Ql;omega
 have L7:7<Ql:=by unfold Ql;omega
 refine eN Tryz.func48 rfl (by decide) rfl rfl ?_;(refine sI fun K Z=>?_;(repeat rw[Qa];simp);refine Z ?_;clear Z K);(refine sI fun K Z=>?_;(repeat rw[Qa];simp);refine Z ?_;clear Z K);(refine sI fun K Z=>?_;(repeat rw[Qa];simp[Qcg,Qd0,Qbr,L0,L1,L2,L3,L4,L5,L6,L7]);refine Z ?_;clear Z K);(refine sI fun K Z=>?_;(repeat rw[Qa];simp);refine Z ?_;clear Z K);(refine Qe ?_;(try simp only[zs]);refine Qk.ret rfl (.inr ⟨[0,1],by decide,by simp,?_⟩);simp[zM])
theorem Qrg(k n a x y:Int)(ls ks:D):Qgw Tryz.prog glob 84 [.box 0 0, .box 1 0, .box 2 0] [.cells 27 [.int .i64 k, .int .i64 n, .int .i64 a,ls,ks], .cells 3 [.int .i64 x], .cells 33 [.int .i64 y]] none
  (fun hc=>hc= [.cells 27 [.int .i64 k, .int .i64 n, .int .i64 a,ls,ks], .cells 3 [.int .i64 x], .cells 33 [.int .i64 y]]):=by
 refine Qav Wa Tryz.func84 rfl rfl (fun a w=>rfl) rfl (Qcm _ _ Tryz.func84 rfl (by decide)) rfl rfl ?_;(try simp only[zr]);(repeat rw[Qa];simp);(refine sI fun K Z=>?_;(repeat rw[Qa];simp);refine Z ?_;clear Z K);refine pF rfl ?_;refine Qg ?_;refine Qk.nrm rfl ?_;simp[Qw]
theorem Qrh(x y:Int):Qgw Tryz.prog glob 84 [.box 0 0, .box 1 0, .box 2 0] [.cells 27 [.int .i64 0, .int .i64 0, .int .i64 0, .slice [] .full, .slice [] .full], .cells 3 [.int .i64 x], .cells 33 [.int .i64 y]] (some Qar)
  (fun hc=>hc= [.cells 27 [.int .i64 0, .int .i64 0, .int .i64 0, .slice [] .full, .slice [] .full], .cells 3 [.int .i64 0], .cells 33 [.int .i64 5], .cells 129 []]):=by
 refine Qav Wa Tryz.func84 rfl rfl (fun a w=>rfl) rfl (Qcm _ _ Tryz.func84 rfl (by decide)) rfl rfl ?_;unfold Qar;(try simp only[zr]);(repeat rw[Qa];simp);(refine sI fun K Z=>?_;(repeat rw[Qa];simp);refine Z ?_;clear Z K);refine pT rfl ?_;refine Qc fun K1 hK1=>?_
 (refine sI fun K Z=>?_;(repeat rw[Qa];simp);refine Z ?_;clear Z K);refine Qc fun K2 hK2=>?_
 (refine Qi Wa ?_;(repeat rw[Qa];simp));refine hK2 _ _ _ ?_;refine pF rfl ?_;refine Qg (hK1 _ _ _ ?_);(refine Qi Wa ?_;(repeat rw[Qa];simp));refine Qk.nrm rfl ?_;simp
theorem Qto{l:List C}(hcs:okCs l){t u:T}{f:Int}{n:Nat}(h0:0<=f)(h1:f<=1073741824)(ht:okT t)(hp:t.pot+7 * f.toNat<=PM)(h:Hd l t n u)(hn:(n:Int)<=f) :
  Sp 36 [Cs l,Qj t, .int .i64 f] [] (rt (.tuple [Qj u, .int .i64 (f - n), .int .i64 0])):=by
 have hat:=Quo l f;have hre:=Qqj hcs _ _ t f false _ h0 rfl rfl ht hp (.fin h hn);have huo:=h.ok hcs.ok ht;have hup:=h.pot;have hud:u.deep<=DM:=by have:=u.deep_nsz;have:=Qef u;unfold PM at hp;unfold DM;omega
 have hli:=Qby u 0 0 hud huo;rw[show u.lift 0 0 0=u from Qku huo 0]at hli;have h0':¬ f<0:=by omega
 have h1':¬ 1073741824<f:=by omega
 generalize (false || decide (0<n))=d at hre;unfold RetP Wg headD Cs Wo at hre;unfold Wg headD Cs Wo at hat;rw[Qb t,Qb u]at hre;rw[Qb u]at hli;rw[Qb t];unfold Cs;refine eD Tryz.func36 rfl (by decide) rfl rfl ?_;(refine sI fun K Z=>?_;(repeat rw[Qa];simp);refine Z ?_;clear Z K);refine Qc fun K1 hK1=>?_
 (refine sI fun K Z=>?_;(repeat rw[Qa];simp[h0',h1']);refine Z ?_;clear Z K);refine pF rfl ?_;refine Qg (hK1 _ _ _ ?_);(refine sI fun K Z=>?_;(repeat rw[Qa];simp);refine Z ?_;clear Z K);(refine sR fun K hK=>?_;(repeat rw[Qa];simp));refine cXg [] (hat) ?_;simp[zU]
 (repeat rw[Qa];simp)
 (refine hK _ _ _ ?_;clear hK K);(refine sR fun K hK=>?_;(repeat rw[Qa];simp));refine cXf [4,5] (hre) ?_;simp[zU]
 (repeat rw[Qa];simp)
 refine cXr (hli) ?_
 (repeat rw[Qa];simp)
 (refine hK _ _ _ ?_;clear hK K);(refine Qc fun K hK=>?_;refine dR fun KT hKT=>?_;(repeat rw[Qd];simp));(refine hKT _ _ _ _ (by kernel_rfl) ?_;clear hKT KT);(refine hK _ _ _ ?_;clear hK K);refine Qe ?_;refine Qfn.objs Qf [1,2,3] (Qrg u.k u.n u.a (f - n) 0 (.slice (u.ls.map Qn) .any) (.slice (u.ks.map Qj) .any)) ?_ ?_ (fun d h=>by cases h) (by decide) (by simp) (by simp[zA]) (by simp[zA]) (by simp[zA]) (by simp[zA])
 ·rintro hc rfl;simp[zA,upO,Qw,Wi];refine Qez.intro rfl (.inr ⟨[],by decide,by simp,?_⟩);simp[zM];simp[Out.fgt,Qb u,D.fgt,D.fgts]
 ·rintro hc rfl;simp
theorem Qo6{l:List C}(hcs:okCs l){t:T}{f q:Int}(h0:0<=f)(h1:f<=1073741824)(ht:okT t)(hp:t.pot+7 * f.toNat<=PM)(h:GoneAt l t f q) :
  Sp 36 [Cs l,Qj t, .int .i64 f] [] (rt (.tuple [Qj Xa, .int .i64 0, .int .i64 5])):=by
 have hat:=Quo l f;have hre:=Qqj hcs _ _ t f false _ h0 rfl rfl ht hp (.gone h);have h0':¬ f<0:=by omega
 have h1':¬ 1073741824<f:=by omega
 unfold Qxm Wg headD Cs Wo Qar at hre;unfold Wg headD Cs Wo at hat;rw[Qb t]at hre;rw[Qb t,encZ];unfold Cs;have hcg:=Qrh 0 0;unfold Qar at hcg;refine eD Tryz.func36 rfl (by decide) rfl rfl ?_;(refine sI fun K Z=>?_;(repeat rw[Qa];simp);refine Z ?_;clear Z K);refine Qc fun K1 hK1=>?_
 (refine sI fun K Z=>?_;(repeat rw[Qa];simp[h0',h1']);refine Z ?_;clear Z K);refine pF rfl ?_;refine Qg (hK1 _ _ _ ?_);(refine sI fun K Z=>?_;(repeat rw[Qa];simp);refine Z ?_;clear Z K);(refine sR fun K hK=>?_;(repeat rw[Qa];simp));refine cXg [] (hat) ?_;simp[zU]
 (repeat rw[Qa];simp)
 (refine hK _ _ _ ?_;clear hK K);(refine sR fun K hK=>?_;(repeat rw[Qa];simp));refine cXg [4,5] (hre) ?_;simp[zU];(try simp only[zs]);refine Qfn.objs Qf [1,2,3] hcg ?_ ?_ (fun d h=>by cases h;rfl) (by decide) (by simp) (by simp[zA]) (by simp[zA]) (by simp[zA]) (by simp[zA])
 ·rintro hc rfl;simp[zA,upO,Qw,Wi];refine Qez.intro rfl (.inr ⟨[],by decide,by simp,?_⟩);simp[zM]
 ·rintro hc rfl;simp
def Wy(left:Int)(l:List C):List HO:= [.cells 181 [.int .i64 left,Cs l]]
def Xx:D:= .iface 33 (.int .i64 5)
theorem Qfi(left:Int)(l:List C)(h:1<=left)(hl:left<=9223372036854775807):Sp 130 [.box 0 0] (Wy left l) (fun o hc=>o= .ret (.tuple [])/\hc=Wy (left - 1) l):=by
 have hw:IntKind.i64.wrap (left - 1)=left - 1:=Qbu (by omega) (by omega);have h':¬ left=0:=by omega
 unfold Wy Cs;refine eN Tryz.func130 rfl (by decide) rfl rfl ?_;refine Qc fun K1 hK1=>?_
 (refine sI fun K Z=>?_;(repeat rw[Qa];simp[h']);refine Z ?_;clear Z K);refine pF rfl ?_;refine Qg (hK1 _ _ _ ?_);(refine Qi Wa ?_;(repeat rw[Qa];simp[hw]));((try simp only[zs]);refine Qk.nrm rfl (.inr ⟨[],by decide,by simp,?_⟩);simp[zM])
theorem Wa7(l:List C):Sp 130 [.box 0 0] (Wy 0 l) (fun o hc=>o= .pan Xx/\hc= [.dead]):=by
 refine Spec.dead (Post:=fun o hc=>o= .pan Xx/\hc=Wy 0 l) ?_ fun o hc hp=>⟨[.dead],fun r=>by
  rw[hp.2]
  match r with
  | 0=>exact .inr rfl
  | r+1=>exact .inl rfl,hp.1,rfl⟩
 unfold Wy Cs Xx;refine eN Tryz.func130 rfl (by decide) rfl rfl ?_;refine Qc fun K1 hK1=>?_
 (refine sI fun K Z=>?_;(repeat rw[Qa];simp);refine Z ?_;clear Z K);refine pT rfl ?_;(refine Qi Wa ?_;(repeat rw[Qa];simp));((try simp only[zs]);refine Qk.pan (.inr ⟨[],by decide,by simp,?_⟩);simp[zM])
theorem Wcq(left g:Int)(l:List C):Sp 187 [.box 0 0, .int .i64 g, .int .i64 0] (Wy left l) (fun o hc=>o= .ret (.tuple [])/\hc=Wy g l):=by
 unfold Wy Cs;refine eN Tryz.func187 rfl (by decide) rfl rfl ?_;(refine sI fun K Z=>?_;(repeat rw[Qa];simp);refine Z ?_;clear Z K);(refine sI fun K Z=>?_;(repeat rw[Qa];simp);refine Z ?_;clear Z K);refine pF rfl ?_;refine Qg ?_;((try simp only[zs]);refine Qk.nrm rfl (.inr ⟨[],by decide,by simp,?_⟩);simp[zM])
theorem Wcr(left g:Int)(l:List C):Sp 187 [.box 0 0, .int .i64 g, .int .i64 5] (Wy left l) (fun o hc=>o= .pan Xx/\hc= [.dead]):=by
 refine Spec.dead (Post:=fun o hc=>o= .pan Xx/\hc=Wy g l) ?_ fun o hc hp=>⟨[.dead],fun r=>by
  rw[hp.2]
  match r with
  | 0=>exact .inr rfl
  | r+1=>exact .inl rfl,hp.1,rfl⟩
 unfold Wy Cs Xx;refine eN Tryz.func187 rfl (by decide) rfl rfl ?_;(refine sI fun K Z=>?_;(repeat rw[Qa];simp);refine Z ?_;clear Z K);(refine sI fun K Z=>?_;(repeat rw[Qa];simp);refine Z ?_;clear Z K);refine pT rfl ?_;(refine Qi Wa ?_;(repeat rw[Qa];simp));((try simp only[zs]);refine Qk.pan (.inr ⟨[],by decide,by simp,?_⟩);simp[zM])
def HeadP(l:List C):Option (T×Int) ->Out ->List HO ->Prop
 | some (u,g)=>fun o hc=>o.fgt= .ret (Qj u)/\hc=Wy g l
 | none=>fun o hc=>o= .pan Xx/\hc= [.dead]
theorem Qap{l:List C}(hcs:okCs l){t:T}{f:Int}{r:Option (T×Int)}(h0:0<=f)(h1:f<=1073741824)(ht:okT t)(hp:t.pot+7 * f.toNat<=PM)(h:HdO l t f r) :
  Sp 131 [.box 0 0,Qj t] (Wy f l) (HeadP l r):=by
 cases h with
 | @fin m u h hm =>
  have wh:=Qto hcs h0 h1 ht hp h hm;have sp:=Wcq f (f - m) l;generalize f - (m:Int)=g at wh sp⊢;show Sp 131 _ _ (fun o hc=>o.fgt= .ret (Qj u)/\hc=Wy g l);unfold Wy Cs at sp⊢;unfold Cs at wh;have hEt:=Qb t;have hEu:=Qb u;rw[hEt,hEu]at wh;rw[hEt,hEu];refine eN Tryz.func131 rfl (by decide) rfl rfl ?_;(refine sI fun K Z=>?_;(repeat rw[Qa];simp);refine Z ?_;clear Z K);(refine Qc fun K hK=>?_;refine dR fun KT hKT=>?_;(repeat rw[Qd];simp));refine cYp (wh) ?_;(try simp only[zq]);(repeat rw[Qd];simp);(refine hKT _ _ _ _ (by kernel_rfl) ?_;clear hKT KT);(refine hK _ _ _ ?_;clear hK K);(refine sR fun K hK=>?_;(repeat rw[Qa];simp));refine cXo [0] false (sp) ?_;(rintro o hc ⟨rfl,rfl⟩;refine⟨false,?_⟩;simp[zU]);(try simp only[zr]);(repeat rw[Qa];simp);(refine hK _ _ _ ?_;clear hK K);(refine sI fun K Z=>?_;(repeat rw[Qa];simp);refine Z ?_;clear Z K);(refine Qe ?_;(try simp only[zs]);refine Qk.ret rfl (.inr ⟨[],by decide,by simp,?_⟩);simp[zM])
 | @gone q g =>
  have wh:=Qo6 hcs h0 h1 ht hp g;have sp:=Wcr f 0 l;show Sp 131 _ _ (fun o hc=>o= .pan Xx/\hc= [.dead]);unfold Wy Cs Xx at sp;unfold Wy Cs Xx;unfold Cs at wh;have hEt:=Qb t;rw[hEt,encZ]at wh;rw[hEt];refine eN Tryz.func131 rfl (by decide) rfl rfl ?_;(refine sI fun K Z=>?_;(repeat rw[Qa];simp);refine Z ?_;clear Z K);(refine Qc fun K hK=>?_;refine dR fun KT hKT=>?_;(repeat rw[Qd];simp));refine cYp (wh) ?_;(try simp only[zq]);(repeat rw[Qd];simp);(refine hKT _ _ _ _ (by kernel_rfl) ?_;clear hKT KT);(refine hK _ _ _ ?_;clear hK K);(refine sR fun K hK=>?_;(repeat rw[Qa];simp));refine cXo [0] false (sp) ?_;(rintro o hc ⟨rfl,rfl⟩;refine⟨false,?_⟩;simp[zU]);((try simp only[zs]);refine Qk.pan (.inr ⟨[],by decide,by simp,?_⟩);simp[zM])
def Ql5(t:T)(ns:List Int)(k:Nat):List T:=(ns.take k).map (Qjt t)
theorem Qwv{t:T}{ns:List Int}{k:Nat}(h:k<ns.length):Ql5 t ns (k+1)=Ql5 t ns k++ [Qjt t ns[k]]:=by unfold Ql5;rw[List.take_succ_eq_append_getElem h,List.map_append];rfl
theorem Qz2(t:T)(ns:List Int):Ql5 t ns ns.length=ns.map (Qjt t):=by unfold Ql5;rw[List.take_length]
theorem Qz1{t:T}{ns:List Int}{k:Nat}(h:k<=ns.length):(Ql5 t ns k).length=k:=by unfold Ql5;rw[List.length_map,List.length_take];omega
theorem Qa8(t:T)(ht:okT t)(ns:List Int)(hl:ns.length<=Ql)(hn:∀n,n∈ns ->0<=n):Sp 135 [Qj t,Qeg ns] [] (rt (Ts (ns.map (Qjt t)))):=by
 rw[<- Qz2];have hkl:=ht.kl;unfold Ql at hkl;obtain⟨kk,nn,aa,ls,ks⟩:=t;simp only[T.ks_mk]at hkl;rw[Qd9];unfold Qeg Ts;refine eN Tryz.func135 rfl (by decide) rfl rfl ?_;(refine sI fun K Z=>?_;(repeat rw[Qa];simp);refine Z ?_;clear Z K);refine Qtk 4 ?_;simp[D.tokd];refine Qc fun K1 hK1=>?_
 (refine sI fun K Z=>?_;(repeat rw[Qa];simp);refine Z ?_;clear Z K);refine Xm Wa Qf (ti:=3) (tk:=10) (tn:=9) (td:=11) (ts:=29) [6,7,10,11,12,13,14,15,16,17,18,19,20,21,22,23,24,25,26,27,28,29] [4] (ns.length) (fun k ys hl=>ys= [.slice ((Ql5 (.mk kk nn aa ls ks) ns k).map Qj) (.tok 1)]/\hl= [.cells 27 [.int .i64 kk, .int .i64 nn, .int .i64 aa, .slice (ls.map Qn) .any, .slice (ks.map Qj) .any], .tok]) rfl rfl rfl rfl rfl rfl rfl rfl rfl rfl rfl rfl (by simp) (by decide) rfl (by first | assumption | omega | (unfold Ql;omega)) rfl (by kernel_rfl) (by decide) ?_ ?_ ?_
 ·exact⟨rfl,rfl⟩
 ·rintro i ys hl A hi ⟨rfl,rfl⟩ hA hA2;simp only[Qh,List.set,List.map_cons,List.map_nil,List.cons_append,List.nil_append];have hi':(i:Int)<ns.length:=by omega
  have hsn:=Qwv (t:= .mk kk nn aa ls ks) hi;have hln:=Qz1 (t:= .mk kk nn aa ls ks) (Nat.le_of_lt hi);have hx0:=hn _ (List.getElem_mem hi);obtain⟨x,hx⟩:∃x,ns[i]=x:=⟨_,rfl⟩;rw[hx]at hsn hx0;obtain⟨m,rfl⟩:∃m:Nat,x=m:=⟨x.toNat,by omega⟩;rw[Qj1]at hsn;have hel:(Ql5 (.mk kk nn aa ls ks) ns i).length+1<=Ql:=by omega
  generalize Ql5 (.mk kk nn aa ls ks) ns i=es at hsn hln hel⊢;(refine sI fun K Z=>?_;(repeat rw[Qa];simp[hi,hi',hx]);refine Z ?_;clear Z K);(refine sI fun K Z=>?_;(repeat rw[Qa];simp);refine Z ?_;clear Z K);refine Wb9 2 rfl ?_;simp[D.fgts,D.fgt];refine Qc fun K2 hK2=>?_
  by_cases hm:m<ks.length
  ·have hm':(m:Int)<ks.length:=by omega
   have hk:(T.mk kk nn aa ls ks).kid m=ks[m]:=by unfold T.kid;simp[List.getD_eq_getElem?_getD,hm]
   rw[hk]at hsn;obtain⟨y,hy⟩:∃y,ks[m]=y:=⟨_,rfl⟩;rw[hy]at hsn;have hEy:=Qb y;(refine sI fun K Z=>?_;(repeat rw[Qa];simp[hm,hm']);refine Z ?_;clear Z K);refine pT rfl ?_;(refine Qi Wa ?_;(repeat rw[Qa];simp[hm,hm',hy,hEy]));refine hK2 _ _ _ ?_;clear hK2 K2;(refine Qi Wa ?_;(repeat rw[Qa];simp[hel]));(refine hA2 ([0,3]) _ _ _ (LeT.refl _) (by decide) (by simp) (by simp[zM,Qh]) ?_ rfl;simp[zM]);rw[hsn,<- hEy,show es.map Qj++ [Qj y]=(es++ [y]).map Qj by simp,Qh5]
  ·have hm':¬ (m:Int)<ks.length:=by omega
   have hk:(T.mk kk nn aa ls ks).kid m=Xa:=by unfold T.kid;simp[List.getD_eq_getElem?_getD,hm]
   rw[hk]at hsn;(refine sI fun K Z=>?_;(repeat rw[Qa];simp[hm,hm']);refine Z ?_;clear Z K);refine pF rfl ?_;refine Qg (hK2 _ _ _ ?_);clear hK2 K2;(refine Qi Wa ?_;(repeat rw[Qa];simp[hel]));(refine hA2 ([0,3]) _ _ _ (LeT.refl _) (by decide) (by simp) (by simp[zM,Qh]) ?_ rfl;simp[zM]);rw[hsn,<- encZ,show es.map Qj++ [Qj Xa]=(es++ [Xa]).map Qj by simp,Qh5]
 ·rintro ys hl tl' ⟨rfl,rfl⟩ htl;refine hK1 _ _ _ (Xo htl ?_);simp only[Qh,List.set,List.map_cons,List.map_nil,List.cons_append,List.nil_append];(refine sI fun K Z=>?_;(repeat rw[Qa];simp);refine Z ?_;clear Z K);(refine Qe ?_;(try simp only[zs]);refine Qk.ret rfl (.inl ?_);simp[zM])
theorem Qq7(t:T)(ht:okT t)(hd:t.deep<=DM):Sp 226 [Qj t] [] (rt (Ts [Qik t])):=by
 have hli:=Qby t 1 0 hd ht;unfold Qik;generalize t.lift 1 0 0=u at hli⊢;have hEu:=Qb u;have hEt:=Qb t;rw[hEt,hEu]at hli;rw[hEt];refine Spec.deepR (e:= .slice [.agg [.int .i64 6, .int .i64 0, .int .i64 0, .slice [] .full, .slice [Qj u, .agg [.int .i64 1, .int .i64 0, .int .i64 0, .slice [] .full, .slice [] .full]] .full]] .any) ?_ ?_
 rotate_left
 ·unfold Ts ofT;simp only[List.map_cons,List.map_nil,Qd9,D.deep,D.deeps,Qks,Qlb]
 rw[hEu];refine eN Tryz.func226 rfl (by decide) rfl rfl ?_;(refine sI fun K Z=>?_;(repeat rw[Qa];simp);refine Z ?_;clear Z K);(refine sR fun K hK=>?_;(repeat rw[Qa];simp));refine cXr (hli) ?_
 (repeat rw[Qa];simp)
 (refine hK _ _ _ ?_;clear hK K);(refine Qe ?_;(try simp only[zs]);refine Qk.ret rfl (.inl ?_);simp[zM])
theorem Qsu(t:T):Sp 228 [Qj t] [] (rt (Ts [ofT 14 [t],ofT 15 [t]])):=by
 have hEt:=Qb t;refine Spec.deepR (e:= .slice [.agg [.int .i64 14, .int .i64 0, .int .i64 0, .slice [] .full, .slice [Qj t] .full], .agg [.int .i64 15, .int .i64 0, .int .i64 0, .slice [] .full, .slice [Qj t] .full]] .any) ?_ ?_
 rotate_left
 ·unfold Ts ofT;simp only[List.map_cons,List.map_nil,Qd9,D.deep,D.deeps,Qks,Qlb]
 rw[hEt];refine eN Tryz.func228 rfl (by decide) rfl rfl ?_;(refine sI fun K Z=>?_;(repeat rw[Qa];simp);refine Z ?_;clear Z K);(refine sI fun K Z=>?_;(repeat rw[Qa];simp);refine Z ?_;clear Z K);(refine Qe ?_;(try simp only[zs]);refine Qk.ret rfl (.inl ?_);simp[zM])
theorem Qr8(t:T)(ht:okT t):Sp 225 [.ref (Qj t)] [] (rt (Ts [t.kid 1])):=by
 have hk:=Qa8 t ht [1] (by unfold Ql;simp) (by simp);unfold Qeg at hk;simp only[List.map_cons,List.map_nil]at hk;rw[show Qjt t 1=t.kid 1 from rfl]at hk;unfold Ts at hk⊢;simp only[List.map_cons,List.map_nil]at hk⊢;rw[Qb t]at hk⊢;refine eN Tryz.func225 rfl (by decide) rfl rfl ?_;(refine sI fun K Z=>?_;(repeat rw[Qa];simp);refine Z ?_;clear Z K);(refine sR fun K hK=>?_;(repeat rw[Qa];simp));refine cXr (hk) ?_
 (repeat rw[Qa];simp)
 (refine hK _ _ _ ?_;clear hK K);(refine Qe ?_;(try simp only[zs]);refine Qk.ret rfl (.inl ?_);simp[zM])
theorem Qr7(t:T)(ht:okT t):Sp 227 [.ref (Qj t)] [] (rt (Ts [t.kid 0,t.kid 1])):=by
 have hk:=Qa8 t ht [0,1] (by unfold Ql;simp) (by simp);unfold Qeg at hk;simp only[List.map_cons,List.map_nil]at hk;rw[show Qjt t 1=t.kid 1 from rfl,show Qjt t 0=t.kid 0 from rfl]at hk;unfold Ts at hk⊢;simp only[List.map_cons,List.map_nil]at hk⊢;rw[Qb t]at hk⊢;refine eN Tryz.func227 rfl (by decide) rfl rfl ?_;(refine sI fun K Z=>?_;(repeat rw[Qa];simp);refine Z ?_;clear Z K);(refine sR fun K hK=>?_;(repeat rw[Qa];simp));refine cXr (hk) ?_
 (repeat rw[Qa];simp)
 (refine hK _ _ _ ?_;clear hK K);(refine Qe ?_;(try simp only[zs]);refine Qk.ret rfl (.inl ?_);simp[zM])
theorem Qgg(t:T)(ht:okT t)(hd:t.deep<=DM)(k:Int)(hk:k=5\/k=13):Sp 212 [Qj t, .int .i64 k] [] (rt (Ts (Qaq k t))):=by
 have h1:=Qr8 t ht;have h2:=Qr7 t ht;have h3:=Qq7 t ht hd;have h4:=Qsu t;have hEt:=Qb t;obtain⟨R,hR⟩:∃R,R=Qaq k t:=⟨_,rfl⟩;rw[<- hR];unfold Qaq at hR;generalize t.kid 0=k0 at h2 hR;generalize t.kid 1=k1 at h1 h2 hR;generalize ofT 14 [t]=o1 at h4 hR;generalize ofT 15 [t]=o2 at h4 hR;generalize Qik t=ap at h3 hR;unfold Ts at h1 h2 h3 h4⊢;rw[hEt]at h1 h2 h3 h4⊢;rcases hk with rfl | rfl
 ·refine eN Tryz.func212 rfl (by decide) rfl rfl ?_;(refine sI fun K Z=>?_;(repeat rw[Qa];simp);refine Z ?_;clear Z K);(refine Xe (T:=Qq) 0 (ty:=27) (ds:= [.int .i64 t.k, .int .i64 t.n, .int .i64 t.a, .slice (t.ls.map Qn) .any, .slice (t.ks.map Qj) .any]) rfl rfl (by first | exact⟨rfl, .inr ⟨_,rfl,rfl⟩⟩ | exact⟨rfl, .inl rfl⟩) ?_;simp[D.frzs,D.frz,HO.frz,Qam,Qat,TK.isAgg,FK.isB,FK.isM,FK.isO,D.isLen]);(refine sI fun K Z=>?_;(repeat rw[Qa];simp);refine Z ?_;clear Z K);refine Qc fun K1 hK1=>?_
  (refine sI fun K Z=>?_;(repeat rw[Qa];simp);refine Z ?_;clear Z K);refine pF rfl ?_;refine Qg (hK1 _ _ _ ?_);clear hK1 K1;refine Qc fun K1 hK1=>?_
  by_cases hk5:t.k=5
  ·rw[if_pos hk5,if_neg (by omega)]at hR;subst hR;rw[hk5]at h1;(refine sI fun K Z=>?_;(repeat rw[Qa];simp[hk5]);refine Z ?_;clear Z K);refine pT rfl ?_;(refine sR fun K hK=>?_;(repeat rw[Qa];simp));refine cXr (h1) ?_
   (repeat rw[Qa];simp)
   (refine hK _ _ _ ?_;clear hK K);(refine Qe ?_;(try simp only[zs]);refine Qk.ret rfl (.inl ?_);simp[zM])
  ·rw[if_neg hk5,if_neg (by omega)]at hR;subst hR;(refine sI fun K Z=>?_;(repeat rw[Qa];simp[hk5]);refine Z ?_;clear Z K);refine pF rfl ?_;refine Qg (hK1 _ _ _ ?_);(refine sR fun K hK=>?_;(repeat rw[Qa];simp));refine cXr (h3) ?_
   (repeat rw[Qa];simp)
   (refine hK _ _ _ ?_;clear hK K);(refine Qe ?_;(try simp only[zs]);refine Qk.ret rfl (.inl ?_);simp[zM])
 ·refine eN Tryz.func212 rfl (by decide) rfl rfl ?_;(refine sI fun K Z=>?_;(repeat rw[Qa];simp);refine Z ?_;clear Z K);(refine Xe (T:=Qq) 0 (ty:=27) (ds:= [.int .i64 t.k, .int .i64 t.n, .int .i64 t.a, .slice (t.ls.map Qn) .any, .slice (t.ks.map Qj) .any]) rfl rfl (by first | exact⟨rfl, .inr ⟨_,rfl,rfl⟩⟩ | exact⟨rfl, .inl rfl⟩) ?_;simp[D.frzs,D.frz,HO.frz,Qam,Qat,TK.isAgg,FK.isB,FK.isM,FK.isO,D.isLen]);(refine sI fun K Z=>?_;(repeat rw[Qa];simp);refine Z ?_;clear Z K);refine Qc fun K1 hK1=>?_
  (refine sI fun K Z=>?_;(repeat rw[Qa];simp);refine Z ?_;clear Z K);refine pT rfl ?_;(refine Qi Wa ?_;(repeat rw[Qa];simp));refine hK1 _ _ _ ?_;clear hK1 K1;refine Qc fun K1 hK1=>?_
  by_cases hk5:t.k=13
  ·rw[if_pos hk5,if_pos rfl]at hR;subst hR;rw[hk5]at h2;(refine sI fun K Z=>?_;(repeat rw[Qa];simp[hk5]);refine Z ?_;clear Z K);refine pT rfl ?_;(refine sR fun K hK=>?_;(repeat rw[Qa];simp));refine cXr (h2) ?_
   (repeat rw[Qa];simp)
   (refine hK _ _ _ ?_;clear hK K);(refine Qe ?_;(try simp only[zs]);refine Qk.ret rfl (.inl ?_);simp[zM])
  ·rw[if_neg hk5,if_pos rfl]at hR;subst hR;(refine sI fun K Z=>?_;(repeat rw[Qa];simp[hk5]);refine Z ?_;clear Z K);refine pF rfl ?_;refine Qg (hK1 _ _ _ ?_);(refine sR fun K hK=>?_;(repeat rw[Qa];simp));refine cXr (h4) ?_
   (repeat rw[Qa];simp)
   (refine hK _ _ _ ?_;clear hK K);(refine Qe ?_;(try simp only[zs]);refine Qk.ret rfl (.inl ?_);simp[zM])
theorem Qjk(t:T)(ht:okT t):Sp 213 [Qj t] [] (rt (Ts (Qak t))):=by
 have h1:=Qa8 t ht [2,3,4] (by unfold Ql;simp) (by simp);have h2:=Qa8 t ht [2,3,5] (by unfold Ql;simp) (by simp);unfold Qeg at h1 h2;simp only[List.map_cons,List.map_nil]at h1 h2;rw[show Qjt t 2=t.kid 2 from rfl,show Qjt t 3=t.kid 3 from rfl]at h1 h2;rw[show Qjt t 4=t.kid 4 from rfl]at h1;rw[show Qjt t 5=t.kid 5 from rfl]at h2;obtain⟨R,hR⟩:∃R,R=Qak t:=⟨_,rfl⟩;rw[<- hR];unfold Qak at hR;generalize t.kid 2=k2 at h1 h2 hR;generalize t.kid 3=k3 at h1 h2 hR;generalize t.kid 4=k4 at h1 hR;generalize t.kid 5=k5 at h2 hR;unfold Ts at h1 h2⊢;have hEt:=Qb t;rw[hEt]at h1 h2⊢;refine eN Tryz.func213 rfl (by decide) rfl rfl ?_;(refine sI fun K Z=>?_;(repeat rw[Qa];simp);refine Z ?_;clear Z K);refine Qc fun K1 hK1=>?_
 (refine sI fun K Z=>?_;(repeat rw[Qa];simp);refine Z ?_;clear Z K);refine Wd ?_;by_cases k18:t.k=18
 ·rw[if_pos k18]at hR;subst hR;rw[k18]at h1;(refine sI fun K Z=>?_;(repeat rw[Qa];simp[k18]);refine Z ?_;clear Z K);refine pT rfl ?_;(refine sR fun K hK=>?_;(repeat rw[Qa];simp));refine cXr (h1) ?_
  (repeat rw[Qa];simp)
  (refine hK _ _ _ ?_;clear hK K);(refine Qe ?_;(try simp only[zs]);refine Qk.ret rfl (.inl ?_);simp[zM])
 ·rw[if_neg k18]at hR;(refine sI fun K Z=>?_;(repeat rw[Qa];simp[k18]);refine Z ?_;clear Z K);refine pF rfl ?_;by_cases k21:t.k=21
  ·rw[if_pos k21]at hR;subst hR;rw[k21]at h2;(refine sI fun K Z=>?_;(repeat rw[Qa];simp[k21]);refine Z ?_;clear Z K);refine pT rfl ?_;(refine sR fun K hK=>?_;(repeat rw[Qa];simp));refine cXr (h2) ?_
   (repeat rw[Qa];simp)
   (refine hK _ _ _ ?_;clear hK K);(refine Qe ?_;(try simp only[zs]);refine Qk.ret rfl (.inl ?_);simp[zM])
  ·rw[if_neg k21]at hR;subst hR;(refine sI fun K Z=>?_;(repeat rw[Qa];simp[k21]);refine Z ?_;clear Z K);refine pF rfl ?_;refine Qg (hK1 _ _ _ ?_);(refine sI fun K Z=>?_;(repeat rw[Qa];simp);refine Z ?_;clear Z K);(refine Qe ?_;(try simp only[zs]);refine Qk.ret rfl (.inl ?_);simp[zM])
def Qvh(l:List C):Option (Bool×Int) ->Out ->List HO ->Prop
 | some (b,g)=>fun o hc=>o.fgt= .ret (.bool b)/\hc=Wy g l
 | none=>fun o hc=>o= .pan Xx/\hc= [.dead]
theorem Xj{l:List C}{b:Bool}{g:Int}:Qvh l (some (b,g))=fun o hc=>o.fgt= .ret (.bool b)/\hc=Wy g l:=rfl
theorem Xv{l:List C}:Qvh l none=fun o hc=>o= .pan Xx/\hc= [.dead]:=rfl
def okP(f:Int)(t:T):Prop:=okT t/\t.pot+7 * f.toNat<=PM
theorem okP.le{f g:Int}{t:T}(h:okP f t)(hg:g<=f):okP g t:=⟨h.1,by have:=h.2;omega⟩
theorem okP.head{l:List C}(hcs:okCs l){f g:Int}{t u:T}(h:okP f t)(hd:HdO l t f (some (u,g))):okP g u:=by
 obtain⟨m,h1,h2,h3⟩:=hd.cost;have:=h1.pot;have:=h.2;exact⟨h1.ok hcs.ok h.1,by omega⟩
mutual
theorem Qn3(n fr:Int):∀(t:T) (d:Int),(T.walk (Qal n fr) t d).pot=t.pot
 | .mk k m a ls ks,d=>by rw[Qfp,T.pot,T.pot,Qpq n fr k ks 0 d,T.walks_length]
theorem Qpq(n fr k:Int):∀(ks:List T) (i:Nat) (d:Int),T.pots (T.walks (Qal n fr) k ks i d)=T.pots ks
 | [],_,_=>by rw[T.walks]
 | t::r,i,d=>by rw[T.walks,T.pots,T.pots,Qn3 n fr t,Qpq n fr k r]
end
theorem Qyz(t:T)(n fr:Int):(t.lift n fr 0).pot<=t.pot:=Nat.le_of_eq (Qn3 n fr t 0)
theorem Qy0{k:Int}{t a:T}(h:a∈Qaq k t):a.pot<=t.pot+7:=by
 unfold Qaq at h;split at h
 ·split at h
  ·simp only[List.mem_cons,List.not_mem_nil,or_false]at h;rcases h with rfl | rfl
   ·have:=Qbt t 0;omega
   ·have:=Qbt t 1;omega
  ·simp only[List.mem_cons,List.not_mem_nil,or_false]at h;subst h;have:=Qbt t 1;omega
 ·split at h
  ·simp only[List.mem_cons,List.not_mem_nil,or_false]at h;rcases h with rfl | rfl
   ·unfold ofT;rw[T.pot,T.pots,T.pots,show Qjs 14 [t].length=0 from rfl];omega
   ·unfold ofT;rw[T.pot,T.pots,T.pots,show Qjs 15 [t].length=0 from rfl];omega
  ·simp only[List.mem_cons,List.not_mem_nil,or_false]at h;subst h;unfold Qik ofT;have:=Qyz t 1 0;rw[T.pot,T.pots,T.pots,T.pots,T.pot,T.pots,show Qjs 1 ([]:List T).length=0 from rfl];generalize t.lift 1 0 0=u at this;rw[show Qjs 6 [u,T.mk 1 0 0 [] []].length=0 from rfl];omega
theorem Qy1{k:Int}{t a:T}(ht:okT t)(h:a∈Qaq k t):okT a:=by
 unfold Qaq at h;split at h
 ·split at h
  ·simp only[List.mem_cons,List.not_mem_nil,or_false]at h;rcases h with rfl | rfl <;> exact Qah ht _
  ·simp only[List.mem_cons,List.not_mem_nil,or_false]at h;subst h;exact Qah ht _
 ·split at h
  ·simp only[List.mem_cons,List.not_mem_nil,or_false]at h;rcases h with rfl | rfl
   ·exact Qn6 (by unfold I64;omega) (by unfold Ql;simp) fun x hx=>by rw[List.mem_singleton.1 hx];exact ht
   ·exact Qn6 (by unfold I64;omega) (by unfold Ql;simp) fun x hx=>by rw[List.mem_singleton.1 hx];exact ht
  ·simp only[List.mem_cons,List.not_mem_nil,or_false]at h;subst h;exact Qaj (by unfold I64;omega) (Qbe 1 0 0 ht) (Qn6 (by unfold I64;omega) (by unfold Ql;simp) fun x hx=>by cases hx)
theorem Qwj{t a:T}(h:a∈Qak t):a∈t.ks\/∃i,a=t.kid i:=by
 unfold Qak at h;split at h
 ·simp only[List.mem_cons,List.not_mem_nil,or_false]at h;rcases h with rfl | rfl | rfl <;> exact .inr ⟨_,rfl⟩
 ·split at h
  ·simp only[List.mem_cons,List.not_mem_nil,or_false]at h;rcases h with rfl | rfl | rfl <;> exact .inr ⟨_,rfl⟩
  ·exact .inl h
theorem Qkr{f:Int}{t a:T}(ht:okP f t)(h:a∈Qak t):okP f a:=by
 rcases Qwj h with h | ⟨i,rfl⟩
 ·refine⟨ht.1.ks a h,?_⟩;have h2:=ht.2;cases t with
  | mk k n x ls ks=>have:=Qt6 (show a∈ks from h);rw[T.pot]at h2;omega
 ·exact⟨Qah ht.1 i,by have:=Qbt t i;have:=ht.2;omega⟩
theorem Qhx{k f:Int}{t a:T}(h0:0<=f)(ht:okP (f+1) t)(h:a∈Qaq k t):okP f a:=⟨Qy1 ht.1 h,by have:=Qy0 h;have:=ht.2;omega⟩
theorem Qsk{f:Int}{t:T}(ht:okP f t):(Qak t).length<=Ql:=by
 unfold Qak;split
 ·unfold Ql;simp
 ·split
  ·unfold Ql;simp
  ·exact ht.1.kl
theorem Qmo(k:Int)(t:T):(Qaq k t).length<=Ql:=by unfold Qaq Ql;split <;> split <;> simp
def Qlt(l:List C)(h:Nat):Prop:=∀p q f o,0<=f ->f<=1073741824 ->okP f p ->okP f q ->CR l h [p] [q] f o ->Sp 136 [.box 0 0,Qj p,Qj q] (Wy f l) (Qvh l o)
set_option maxHeartbeats 4000000 in
theorem Qil{l:List C}{h:Nat}(H:Qlt l h){ps qs:List T}{f:Int}{o:Option (Bool×Int)}(hlen:ps.length=qs.length)(hl:ps.length<=Ql)(h0:0<=f)(h1:f<=1073741824)(hp:∀p,p∈ps ->okP f p)(hq:∀q,q∈qs ->okP f q)(hcr:CR l h ps qs f o) :
  Sp 134 [.box 0 0,Ts ps,Ts qs] (Wy f l) (Qvh l o):=by
 have hl0:=hl;unfold Ql at hl0;unfold Ts Wy Cs;refine eN Tryz.func134 rfl (by decide) rfl rfl ?_;(refine sI fun K Z=>?_;(repeat rw[Qa];simp);refine Z ?_;clear Z K);refine Qc fun K1 hK1=>?_
 (refine sI fun K Z=>?_;(repeat rw[Qa];simp);refine Z ?_;clear Z K);refine Xm Wa Qf (ti:=3) (tk:=10) (tn:=9) (td:=11) (ts:=24) [6,7,10,11,12,13,14,15,16,17,18,19,20,21,22,23,24] [] (ps.length) (fun k ys hl=>∃(g:Int),ys= []/\CR l h (ps.drop k) (qs.drop k) g o/\0<=g/\g<=f/\hl= [.cells 181 [.int .i64 g, .slice (l.map Qbj) .any]]) rfl rfl rfl rfl rfl rfl rfl rfl rfl rfl rfl rfl (by simp) (by decide) rfl (by first | assumption | omega | (unfold Ql;omega)) rfl (by kernel_rfl) (by decide) ?_ ?_ ?_
 ·exact⟨f,rfl,hcr,h0,Int.le_refl _,rfl⟩
 ·rintro i ys hl A hi ⟨g,rfl,hg,hg0,hg1,rfl⟩ hA hA2;simp only[Qh,List.set,List.map_cons,List.map_nil,List.cons_append,List.nil_append];have hi':(i:Int)<ps.length:=by omega
  have hi2:i<qs.length:=by omega
  have hi2':(i:Int)<qs.length:=by omega
  rw[List.drop_eq_getElem_cons hi,List.drop_eq_getElem_cons hi2]at hg;have hpo:=(hp _ (List.getElem_mem hi)).le hg1;have hqo:=(hq _ (List.getElem_mem hi2)).le hg1;obtain⟨x,hx⟩:∃x,ps[i]=x:=⟨_,rfl⟩;obtain⟨y,hy⟩:∃y,qs[i]=y:=⟨_,rfl⟩;rw[hx,hy]at hg;rw[hx]at hpo;rw[hy]at hqo;have hEx:=Qb x;have hEy:=Qb y;have hone:=fun o'=>H x y g o' hg0 (by omega) hpo hqo
  rw[hEx,hEy]at hone;unfold Wy Cs at hone;have hsp:(CR l h [x] [y] g none/\o=none)\/(∃g',CR l h [x] [y] g (some (false,g'))/\o=some (false,g'))\/∃g',CR l h [x] [y] g (some (true,g'))/\CR l h (ps.drop (i+1)) (qs.drop (i+1)) g' o:=by
   cases h with
   | zero=>cases hg
   | succ h=>exact hg.split
  rcases hsp with ⟨c1,rfl⟩ | ⟨g',c1,rfl⟩ | ⟨g',c1,c2⟩
  ·have one:=hone _ c1;rw[Xv]at one;unfold Xx at one;(refine sI fun K Z=>?_;(repeat rw[Qa];simp[hi,hi']);refine Z ?_;clear Z K);(refine Qc fun K hK=>?_;refine dR fun KT hKT=>?_;(repeat rw[Qd];simp[hi,hi',hx,hi2,hi2',hy,hEx,hEy]));refine cYo [0] true false (one) (fun o h e=>e) ?_;simp[zU];((try simp only[Qt,Qu,Qr,Qw,Wi]);(repeat(refine Wr _ _ _ _ (by kernel_rfl) ?_;simp only[Qr,List.set,List.nil_append,List.cons_append,Nat.reduceAdd]));(try simp only[Qm]));(refine hKT _ _ _ _ (by kernel_rfl) ?_;clear hKT KT);simp[Xi];rw[Xv];unfold Xx;((try simp only[zs]);refine Qk.pan (.inr ⟨[],by decide,by simp,?_⟩);simp[zM])
  ·have one:=hone _ c1;rw[Xj]at one;unfold Wy Cs at one;(refine sI fun K Z=>?_;(repeat rw[Qa];simp[hi,hi']);refine Z ?_;clear Z K);(refine Qc fun K hK=>?_;refine dR fun KT hKT=>?_;(repeat rw[Qd];simp[hi,hi',hx,hi2,hi2',hy,hEx,hEy]));refine cYo [0] true true (one) (fun o h e=>e) ?_;simp[zU];(try simp only[zq]);(repeat rw[Qd];simp);(refine hKT _ _ _ _ (by kernel_rfl) ?_;clear hKT KT);(refine hK _ _ _ ?_;clear hK K);refine pT rfl ?_;(refine sI fun K Z=>?_;(repeat rw[Qa];simp);refine Z ?_;clear Z K);rw[Xj];unfold Wy Cs;(refine Qe ?_;(try simp only[zs]);refine Qk.ret rfl (.inr ⟨[],by decide,by simp,?_⟩);simp[zM])
  ·have one:=hone _ c1;have hle:=c1.le hg0 _ _ rfl;rw[Xj]at one;unfold Wy Cs at one;(refine sI fun K Z=>?_;(repeat rw[Qa];simp[hi,hi']);refine Z ?_;clear Z K);(refine Qc fun K hK=>?_;refine dR fun KT hKT=>?_;(repeat rw[Qd];simp[hi,hi',hx,hi2,hi2',hy,hEx,hEy]));refine cYo [0] true true (one) (fun o h e=>e) ?_;simp[zU];(try simp only[zq]);(repeat rw[Qd];simp);(refine hKT _ _ _ _ (by kernel_rfl) ?_;clear hKT KT);(refine hK _ _ _ ?_;clear hK K);refine pF rfl ?_;refine Qg ?_;(refine hA2 ([]) _ _ _ (LeT.refl _) (by decide) (by simp) (by simp[zM,Qh]) ?_ rfl;simp[zM]);exact⟨g',c2,hle.1,by omega,rfl⟩
 ·rintro ys hl tl' ⟨g,rfl,hg,hg0,hg1,rfl⟩ htl;refine hK1 _ _ _ (Xo htl ?_);simp only[Qh,List.set,List.map_cons,List.map_nil,List.cons_append,List.nil_append];rw[List.drop_length,hlen,List.drop_length]at hg;cases hg;rw[Xj];unfold Wy Cs;(refine sI fun K Z=>?_;(repeat rw[Qa];simp);refine Z ?_;clear Z K);(refine Qe ?_;(try simp only[zs]);refine Qk.ret rfl (.inr ⟨[],by decide,by simp,?_⟩);simp[zM])
end Go.Proofs.YtgloldepdhgfaaaGreatDoor
namespace Go.Proofs.YtgloldepdhgfaaaGreatDoor
set_option linter.unusedSimpArgs false
set_option linter.unusedVariables false
open Go.RowKit
def Yb(f:Int):Int:=401300000 - 20060 * f
def okY(f:Int)(t:T):Prop:=okT t/\(t.pot:Int)<=Yb f
structure Sub (n : Int) (cs : List Int) (c : List T) (t : T) : Prop where
 core:Qb1 n cs t (c.length:Int)=true
 ok:okT t
 sz:t.nsz<=20000
structure Cx (c : List T) (f : Int) : Prop where
 ok:∀x,x∈c ->okT x/\x.pot<=20000
 len:(c.length:Int)+f<=1000000
theorem Cx.le{c:List T}{f g:Int}(h:Cx c f)(hg:g<=f):Cx c g:=⟨h.ok,by have:=h.len;omega⟩
theorem okY.le{f g:Int}{t:T}(h:okY f t)(hg:g<=f):okY g t:=⟨h.1,by have:=h.2;unfold Yb at *;omega⟩
theorem okY.okP{f:Int}{t:T}(h0:0<=f)(h1:f<=20000)(h:okY f t):okP f t:=⟨h.1,by have:=h.2;unfold Yb at this;unfold PM;omega⟩
def okI(f0 f:Int)(t:T):Prop:=okT t/\(t.pot:Int)<=100000+20060 * (f0 - f)
theorem okI.okY{f0 f:Int}{t:T}(h:okI f0 f t)(h0:f0<=20000):okY f t:=⟨h.1,by have:=h.2;unfold Yb;omega⟩
theorem Qu4{n:Int}{cs:List Int}(t:T):∀{sc:Int},Qb1 n cs t sc=true ->t.pot=t.nsz:=by
 induction t using T.ind with
 | h k m a ls ks ih =>
  intro sc h;obtain⟨h1,h2⟩:=Qhg.1 h;obtain⟨-, -,h3⟩:=Qgh.1 h1;have h3:(ks.length:Int)=Qxk k a:=h3;have hl:Qjs k ks.length=0:=by
   unfold Qjs;unfold Qxk at h3;split
   ·rename_i e;subst e;simp at h3;omega
   ·split
    ·rename_i e;rcases e with rfl | rfl <;> simp at h3 <;> omega
    ·split
     ·rename_i e;subst e;simp at h3;omega
     ·split
      ·rename_i e;subst e;simp at h3;omega
      ·rfl
  rw[T.pot,T.nsz,hl];have key:∀zs:List T,(∀z,z∈zs ->z.pot=z.nsz) ->T.pots zs=T.nszs zs:=fun zs=>by
   induction zs with
   | nil=>intro _;rfl
   | cons z r ih=>intro H;rw[T.pots,T.nszs,H z (List.mem_cons_self ..),ih fun y hy=>H y (List.mem_cons_of_mem _ hy)]
  rw[key ks fun z hz=>by
   obtain⟨i,hi,rfl⟩:=List.getElem_of_mem hz
   exact ih _ (List.getElem_mem hi) (h2 i hi)]
theorem Sub.pot{n:Int}{cs:List Int}{c:List T}{t:T}(h:Sub n cs c t):t.pot<=20000:=by rw[Qu4 t h.core];exact h.sz
theorem Sub.okY{n:Int}{cs:List Int}{c:List T}{t:T}(h:Sub n cs c t){f:Int}(h1:f<=20000):okY f t:=⟨h.ok,by have:=h.pot;unfold Yb;omega⟩
theorem Sub.in{n:Int}{cs:List Int}{c:List T}{t:T}(h:Sub n cs c t):(t.ks.length:Int)=Qxk t.k t.a:=(Qif h.core).2.2
theorem Sub.kid{n:Int}{cs:List Int}{c:List T}{t:T}(h:Sub n cs c t){i:Nat}(hi:i<t.ks.length)(hb:Qba t.k (i:Int)=false):Sub n cs c (t.kid i) :=
 ⟨by have:=Qu6 h.core hi;rwa [Wbe hb]at this,Qah h.ok i,Nat.le_trans (Qz3 t i) h.sz⟩
theorem Sub.kidB{n:Int}{cs:List Int}{c:List T}{t:T}(h:Sub n cs c t)(hc:c.length<=1000000)(x:T){i:Nat}(hi:i<t.ks.length)(hb:Qba t.k (i:Int)=true):Sub n cs (c++ [x]) (t.kid i) :=
 ⟨by have:=Qu6 h.core hi;rw[Qxi hb (by omega)]at this;rw[List.length_append];exact this,Qah h.ok i,Nat.le_trans (Qz3 t i) h.sz⟩
theorem Cx.below{c:List T}{f:Int}(h:Cx c f){n:Int}{cs:List Int}{c':List T}{t:T}(hs:Sub n cs c' t){g:Int}(hg:g<=f - 1):Cx (c++ [t]) g :=
 ⟨fun x hx=>by
  rcases List.mem_append.1 hx with hx | hx
  ·exact h.ok x hx
  ·rw[List.mem_singleton.1 hx];exact⟨hs.ok,hs.pot⟩,by rw[List.length_append];have:=h.len;simp;omega⟩
theorem Waf{l:List C}(hl:∀c,c∈l ->okC c){y x:T}{f g:Int}(h0:0<=f)(hy:okT y)(h:hdR l y f= .ok (x,g)):0<=g/\g<=f/\okT x/\(x.pot:Int)<=y.pot+7 * (f - g):=by
 rcases Qgp l y h0 with ⟨v,h1,h2⟩ | ⟨h1,h2⟩
 ·rw[h]at h1;cases h1;have:=h2.le;obtain⟨m,h3,h4,h5⟩:=h2.cost;have hp:=h3.pot;exact⟨this.1,this.2,h3.ok hl hy,by omega⟩
 ·rw[h]at h1;cases h1
theorem Qss{l:List C}(hl:∀c,c∈l ->okC c){y x:T}{f g:Int}(h0:0<=f)(hy:okY f y)(h:hdR l y f= .ok (x,g)):0<=g/\g<=f/\okY g x:=by
 obtain⟨a,b,c,d⟩:=Waf hl h0 hy.1 h;refine⟨a,b,c,?_⟩;have:=hy.2;unfold Yb at *;omega
theorem Wd9(t:T):(t.kid 0).pot+(t.kid 1).pot<=t.pot+1:=by
 cases t with
 | mk k n a ls ks =>
  have h1:(T.mk k n a ls ks).kid 0=ks.getD 0 Xa:=rfl;have h2:(T.mk k n a ls ks).kid 1=ks.getD 1 Xa:=rfl;rw[h1,h2,T.pot]
  match ks with
  | []=>rw[T.pots];simp[Qdg]
  | [x]=>rw[T.pots,T.pots];simp[Qdg];try omega
  | x::y::r=>rw[T.pots,T.pots];simp;try omega
theorem asR_ok{l:List C}{y:T}{k e f g:Int}{v:T×T}(h:asR l y k e f= .ok (v,g)):∃x,hdR l y f= .ok (x,g)/\x.k=k/\v=(x.kid 0,x.kid 1):=by
 unfold asR at h;obtain⟨x,f1,h1,h⟩:=Rs.next_some h;split at h
 ·cases h;exact⟨x,h1,by assumption,rfl⟩
 ·cases h
theorem Qbk{l:List C}(hl:∀c,c∈l ->okC c){y:T}{k e f g:Int}{v:T×T}(h0:0<=f)(hy:okY f y)(h:asR l y k e f= .ok (v,g)):0<=g/\g<=f/\okY g v.1/\okY g v.2/\((v.1.pot+v.2.pot:Nat):Int)<=y.pot+7 * (f - g)+1:=by
 obtain⟨x,h1, -,rfl⟩:=asR_ok h;obtain⟨a,b,c⟩:=Qss hl h0 hy h1;obtain⟨-, -, -,d⟩:=Waf hl h0 hy.1 h1;have p0:=Qbt x 0;have p1:=Qbt x 1;have p2:=Wd9 x;have:=c.2;exact⟨a,b,⟨Qah c.1 0,by show((x.kid 0).pot:Int)<=_;omega⟩,⟨Qah c.1 1,by show((x.kid 1).pot:Int)<=_;omega⟩,by show(((x.kid 0).pot+(x.kid 1).pot:Nat):Int)<=_;omega⟩
theorem Qe9{l:List C}{a b:T}{e f g:Int}{u:Unit}(h0:0<=f)(h:oneR l a b e f= .ok (u,g)):0<=g/\g<=f:=by
 unfold oneR at h;obtain⟨x,f1,h1,h⟩:=Rs.next_some h;rcases Qie l a b h0 with ⟨v,q,h2,h3⟩ | ⟨q,h2,h3⟩
 ·rw[h1]at h2;cases h2;have:=h3.le h0 _ _ rfl;split at h
  ·cases h;exact this
  ·cases h
 ·rw[h1]at h2;cases h2
theorem lqR_ok{l:List C}{a b:T}{f g:Int}{v:Bool}(h0:0<=f)(h:lqR l a b f= .ok (v,g)):0<=g/\g<=f:=by
 rcases Qgj l a b h0 with ⟨v,q,h2,h3⟩ | ⟨q,h2,h3⟩
 ·rw[h]at h2;cases h2;exact h3.le _ _ rfl
 ·rw[h]at h2;cases h2
theorem Qug{l:List C}(hl:∀c,c∈l ->okC c){y:T}{f g:Int}{i:LV}(h0:0<=f)(hy:okT y)(h:lvR l y f= .ok (i,g)):0<=g/\g<=f/\okL i:=by
 unfold lvR at h;obtain⟨x,f1,h1,h⟩:=Rs.next_some h;obtain⟨a,b,c, -⟩:=Waf hl h0 hy h1;split at h
 ·rename_i hx;cases h;refine⟨a,b,c.ls _ ?_⟩;rw[List.getD_eq_getElem?_getD,List.getElem?_eq_getElem (by omega)];exact List.getElem_mem _
 ·cases h
theorem Qg7{n:Int}{t a u:T}{f g:Int}(h0:0<=f)(ht:okT t)(ha:okT a)(h:Qn0 t a f= .ok (u,g)):0<=g/\g<=f - 1/\okT u/\(u.nsz:Int)=f - g/\u=t.put [a] 0:=by
 unfold Qn0 at h;split at h
 ·cases h;have hn:(t.put [a] 0).nsz=t.sd a.nsz 0:=Qsi a t 0;have hp:=T.nsz_pos (t.put [a] 0);refine⟨by omega,by omega,?_,by omega,rfl⟩;exact Qpo (fun b hb=>by rw[List.mem_singleton.1 hb];exact ha) 0 ht
 ·cases h
section
variable {l : List C} {n : Int} {I : List T -> T -> Int -> Rs T} {K : List T -> T -> T -> Int -> Rs Unit}
def IB(l:List C)(n:Int)(I:List T ->T ->Int ->Rs T):Prop:=∀c t f s g,0<=f ->f<=20000 ->Sub n (l.map C.lv) c t ->Cx c f ->I c t f= .ok (s,g) ->0<=g/\g<=f - 1/\okI f g s
def KB(l:List C)(n:Int)(K:List T ->T ->T ->Int ->Rs Unit):Prop:=∀c t y f u g,0<=f ->f<=20000 ->Sub n (l.map C.lv) c t ->Cx c f ->okY f y ->K c t y f= .ok (u,g) ->0<=g/\g<=f - 1
theorem okI.at{f0 f1 f:Int}{t:T}(h:okI f0 f t)(h1:f0<=f1):okI f1 f t:=⟨h.1,by have:=h.2;omega⟩
theorem Qai(hl:∀c,c∈l ->okC c)(hI:IB l n I){c:List T}{t:T}{f g:Int}{i:LV}(h0:0<=f)(h1:f<=20000)(hs:Sub n (l.map C.lv) c t)(hc:Cx c f)(h:sortR l I c t f= .ok (i,g)):0<=g/\g<=f - 1/\okL i:=by
 unfold sortR at h;obtain⟨s,f1,e1,h⟩:=Rs.next_some h;obtain⟨a,b,d⟩:=hI _ _ _ _ _ h0 h1 hs hc e1;obtain⟨a',b',d'⟩:=Qug hl a d.1 h;exact⟨a',by omega,d'⟩
theorem Qgi(hl:∀c,c∈l ->okC c)(hI:IB l n I){c:List T}{p t:T}{f g:Int}{u:Unit}(h0:0<=f)(h1:f<=20000)(hs:Sub n (l.map C.lv) c p)(hc:Cx c f)(h:motiveR l I c p t f= .ok (u,g)):0<=g/\g<=f - 1:=by
 unfold motiveR at h;obtain⟨s,f1,e1,h⟩:=Rs.next_some h;obtain⟨v,f2,e2,h⟩:=Rs.next_some h;obtain⟨_,f3,e3,h⟩:=Rs.next_some h;obtain⟨j,f4,e4,h⟩:=Rs.next_some h;cases h;obtain⟨a,b,d⟩:=hI _ _ _ _ _ h0 h1 hs hc e1;obtain⟨a2,b2,d2,d3, -⟩:=Qbk hl a (d.okY h1) e2;obtain⟨a3,b3⟩:=Qe9 a2 e3;obtain⟨a4,b4, -⟩:=Qug hl a3 d3.1 e4;exact⟨a4,by omega⟩
theorem Qag(k:Int)(x y:T):(ofT k [x,y]).pot<=7+x.pot+y.pot:=by unfold ofT;rw[T.pot,T.pots,T.pots,T.pots];have:=Qgl k [x,y].length;omega
theorem Qr5(k:Int)(x y z:T):(ofT k [x,y,z]).pot<=7+x.pot+y.pot+z.pot:=by unfold ofT;rw[T.pot,T.pots,T.pots,T.pots,T.pots];have:=Qgl k [x,y,z].length;omega
theorem pot_of1(k:Int)(x:T):(ofT k [x]).pot<=7+x.pot:=by unfold ofT;rw[T.pot,T.pots,T.pots];have:=Qgl k [x].length;omega
theorem Qyy(k:Int):(ofT k []).pot<=7:=by unfold ofT;rw[T.pot,T.pots];have:=Qgl k ([]:List T).length;omega
theorem Qtp{i:LV}(h:okL i):okT (Qir i):= .mk (by unfold I64;omega) (by unfold I64;omega) (by unfold I64;omega) (by unfold Ql;simp) (fun x hx=>by rw[List.mem_singleton.1 hx];exact h) (by simp) (fun _ h=>nomatch h)
theorem Qn2(i:LV):(Qir i).pot<=7:=by unfold Qir;rw[T.pot,T.pots];have:=Qgl 2 ([]:List T).length;omega
theorem Qty(i:LV):okL (Qfm i):=by unfold Qfm;split <;> exact Qn8 _
theorem Qsw{k:Int}(hk:I64 k):okT (Qju k):= .mk (by unfold I64;omega) hk (by unfold I64;omega) (by simp) (fun _ h=>nomatch h) (by simp) (fun _ h=>nomatch h)
theorem Qu2{k a:Int}(hk:I64 k)(ha:I64 a):okT (Qid k a):= .mk (by unfold I64;omega) hk ha (by simp) (fun _ h=>nomatch h) (by simp) (fun _ h=>nomatch h)
theorem Qne{k:Int}(hk:I64 k):okT (Qeh k):= .mk (by unfold I64;omega) hk (by unfold I64;omega) (by simp) (fun _ h=>nomatch h) (by simp) (fun _ h=>nomatch h)
theorem Qr6(k:Int):(Qju k).pot=1:=rfl
theorem Qt7(k a:Int):(Qid k a).pot=1:=rfl
theorem Qr3(k:Int):(Qeh k).pot=1:=rfl
theorem Qy7{k:Int}{x y z:T}(hk:I64 k)(hx:okT x)(hy:okT y)(hz:okT z):okT (ofT k [x,y,z]):=Qn6 hk (by unfold Ql;simp) fun t h=>by
 simp only[List.mem_cons,List.not_mem_nil,or_false]at h;rcases h with rfl | rfl | rfl
 ·exact hx
 ·exact hy
 ·exact hz
theorem Wfd{k:Int}{x:T}(hk:I64 k)(hx:okT x):okT (ofT k [x]):=Qn6 hk (by unfold Ql;simp) fun t h=>by rw[Qha h];exact hx
theorem Wfe{k:Int}(hk:I64 k):okT (ofT k []):=Qn6 hk (by simp) fun t h=>by cases h
theorem Qdc{k:Int}(h: -1000000<=k/\k<=1000000:=by omega):I64 k:=by unfold I64;omega
theorem Qcf(t:T)(m fr:Int):(t.lift m fr 0).pot=t.pot:=Qn3 m fr t 0
theorem Qx9{a b p:T}(ha:okT a)(hb:okT b)(hp:okT p):okT (Qis a b p)/\(Qis a b p).pot<=200+2 * a.pot+3 * b.pot+2 * p.pot:=by
 have v0:=Qne (k:=0) Qdc;have v1:=Qne (k:=1) Qdc;have v2:=Qne (k:=2) Qdc;have la:=Qbe 2 0 0 ha;have lb:=Qbe 2 1 0 hb;have lb':=Qbe 1 0 0 hb;have lp:=Qbe 3 0 0 hp;unfold Qis;refine⟨Qaj Qdc ha (Qaj Qdc (Qaj Qdc hb (Qaj Qdc la lb)) (Qaj Qdc (Qaj Qdc lb' (Qaj Qdc lp (Qaj Qdc v1 v0))) (Qaj Qdc lp (Qaj Qdc v2 v1)))),?_⟩;have e1:=Qag 4 a (ofT 4 [ofT 4 [b,ofT 16 [a.lift 2 0 0,b.lift 2 1 0]],ofT 4 [ofT 4 [b.lift 1 0 0,ofT 6 [p.lift 3 0 0,ofT 6 [Qeh 1,Qeh 0]]],ofT 6 [p.lift 3 0 0,ofT 17 [Qeh 2,Qeh 1]]]]);have e2:=Qag 4 (ofT 4 [b,ofT 16 [a.lift 2 0 0,b.lift 2 1 0]]) (ofT 4 [ofT 4 [b.lift 1 0 0,ofT 6 [p.lift 3 0 0,ofT 6 [Qeh 1,Qeh 0]]],ofT 6 [p.lift 3 0 0,ofT 17 [Qeh 2,Qeh 1]]]);have e3:=Qag 4 b (ofT 16 [a.lift 2 0 0,b.lift 2 1 0]);have e4:=Qag 16 (a.lift 2 0 0) (b.lift 2 1 0);have e5:=Qag 4 (ofT 4 [b.lift 1 0 0,ofT 6 [p.lift 3 0 0,ofT 6 [Qeh 1,Qeh 0]]]) (ofT 6 [p.lift 3 0 0,ofT 17 [Qeh 2,Qeh 1]]);have e6:=Qag 4 (b.lift 1 0 0) (ofT 6 [p.lift 3 0 0,ofT 6 [Qeh 1,Qeh 0]]);have e7:=Qag 6 (p.lift 3 0 0) (ofT 6 [Qeh 1,Qeh 0]);have e8:=Qag 6 (Qeh 1) (Qeh 0);have e9:=Qag 6 (p.lift 3 0 0) (ofT 17 [Qeh 2,Qeh 1]);have e10:=Qag 17 (Qeh 2) (Qeh 1);rw[Qr3,Qr3]at e8 e10;rw[Qcf]at e4 e6 e7 e9;rw[Qcf]at e4;omega
theorem Wcj(hl:∀c,c∈l ->okC c/\c.ty.nsz<=14000)(m:Int)(lv:List LV):okT (Qjq l m lv)/\(Qjq l m lv).pot<=98000:=by
 unfold Qjq;split
 ·rename_i h;split
  ·have hm:=hl _ (List.getElem_mem h.2);refine⟨Qp5 _ _ hm.1.2.1,?_⟩;have:=Qfy (T.levels (l[m.toNat]'h.2).ty lv 0);have e:(T.levels (l[m.toNat]'h.2).ty lv 0).nsz=(l[m.toNat]'h.2).ty.nsz:=Qiy lv _ 0;omega
  ·exact⟨Qc6,by rw[Qdg];omega⟩
 ·exact⟨Qc6,by rw[Qdg];omega⟩
structure Kc (l : List C) : Prop where
 cs:okCs l
 ty:∀c,c∈l ->c.ty.nsz<=14000
theorem Kc.ok(h:Kc l):∀c,c∈l ->okC c:=h.cs.ok
theorem Sub.ks{cs:List Int}{c:List T}{t:T}(h:Sub n cs c t){k:Int}(hk:t.k=k){m:Nat}(hm:Qxk k t.a=m:=by rfl):t.ks.length=m:=by
 have:=h.in;rw[hk,hm]at this;omega
theorem letP_ok{cs:List Int}{c:List T}{b a:T}{f:Int}(hb:Sub n cs (c++ [a]) b)(ha:Sub n cs c a)(hc:c.length<=1000000)(hn:(b.put [a] 0).nsz<=20000):Sub n cs c (b.put [a] 0):=by
 refine⟨?_,Qpo (fun x hx=>by rw[List.mem_singleton.1 hx];exact ha.ok) 0 hb.ok,hn⟩;have d1:=b.deep_nsz;have d2:=a.deep_nsz;have s1:=hb.sz;have s2:=ha.sz;have h1:=hb.core;rw[List.length_append]at h1;have:=Weq (n:=n) (cs:=cs) (bys:= [a]) (s0:=(c.length:Int)) (by omega) (fun x hx=>by rw[List.mem_singleton.1 hx];exact⟨ha.core,by unfold DM;omega⟩) (by unfold Ql;simp) b 0 (by omega) ⟨by simp;omega,by simp;omega⟩ ⟨by omega,by omega⟩ (by omega) (by unfold DM;omega);have e:Qb1 n cs b ((c.length:Int)+(([a]:List T).length:Int)+0)=true:=by
  rw[show((c.length:Int)+(([a]:List T).length:Int)+0)=((c.length+ [a].length:Nat):Int) by simp];exact h1
 have:=this e;rw[show((c.length:Int)+0)=(c.length:Int) by omega]at this;exact this
end
end Go.Proofs.YtgloldepdhgfaaaGreatDoor
namespace Go.Proofs.YtgloldepdhgfaaaGreatDoor
set_option linter.unusedSimpArgs false
set_option linter.unusedVariables false
open Go.RowKit
theorem getDi{ks:List T}{i:Nat}(h:i<ks.length):ks.getD i Xa=ks[i]:=by rw[List.getD_eq_getElem?_getD,List.getElem?_eq_getElem h];rfl
theorem getDo{ks:List T}{i:Nat}(h:¬ i<ks.length):ks.getD i Xa=Xa:=by rw[List.getD_eq_getElem?_getD,List.getElem?_eq_none (by omega)];rfl
section
variable {l : List C} {n : Int} {I : List T -> T -> Int -> Rs T} {K : List T -> T -> T -> Int -> Rs Unit}
theorem Qw4{c:List T}{f:Int}(hc:Cx c f)(i:Nat):okT (c.getD i Xa)/\(c.getD i Xa).pot<=20000:=by
 by_cases h:i<c.length
 ·rw[getDi h];exact hc.ok _ (List.getElem_mem h)
 ·rw[getDo h];exact⟨Qc6,by rw[Qdg];omega⟩
theorem Qbx{f g:Int}{t:T}(h:okT t)(hp:t.pot<=100000)(hg:g<=f):okI (f+1) g t:=⟨h,by omega⟩
theorem Qob(hk:Kc l)(hI:IB l n I)(hK:KB l n K){c:List T}{t u:T}{f g:Int}(h0:0<=f)(h1:f<=20000)(hs:Sub n (l.map C.lv) c t)(hc:Cx c f)(ht:t.k=7)(h:letR l I K c t f= .ok (u,g)):0<=g/\g<=f - 1/\Sub n (l.map C.lv) c u:=by
 have hl:=hs.ks ht (m:=3);unfold letR at h;obtain⟨i,f1,e1,h⟩:=Rs.next_some h;obtain⟨_,f2,e2,h⟩:=Rs.next_some h;have k0:=hs.kid (i:=0) (by omega) (by rw[ht];rfl);have k1:=hs.kid (i:=1) (by omega) (by rw[ht];rfl);obtain⟨a1,b1, -⟩:=Qai hk.ok hI h0 h1 k0 hc e1;obtain⟨a2,b2⟩:=hK _ _ _ _ _ _ a1 (by omega) k1 (hc.le (by omega)) (k0.okY (by omega)) e2;have hcl:=hc.len;have k2:=hs.kidB (i:=2) (by omega) (t.kid 1) (by omega) (by rw[ht];rfl);obtain⟨a3,b3,d3,p3,rfl⟩:=Qg7 (n:=n) a2 k2.ok k1.ok h;exact⟨a3,by omega,letP_ok (f:=f) k2 k1 (by omega) (by omega)⟩
theorem Wft(hK:KB l n K){c:List T}{t:T}(hs:Sub n (l.map C.lv) c t)(ht:t.k=24)(ha:0<=t.a)(hlen:t.ks.length=t.a.toNat+2):∀(m k:Nat) {f g:Int} {u:Unit},k+m<=t.a.toNat ->0<=f ->f<=20000 ->Cx c f ->brR K c t m k f= .ok (u,g) ->0<=g/\g<=f
 | 0,k,f,g,u,_,h0,_,_,h=>by rw[brR]at h;cases h;exact⟨h0,Int.le_refl _⟩
 | m+1,k,f,g,u,hkm,h0,h1,hc,h=>by
  have hl:=hlen;rw[brR]at h;obtain⟨_,f1,e1,h⟩:=Rs.next_some h;have hb:∀i:Int,Qba t.k i=false:=fun i=>by rw[ht];exact Wbd i
  have k0:=hs.kid (i:=0) (by omega) (hb _);have kk:=hs.kid (i:=k+1) (by omega) (hb _)
  have hy:okY f (ofT 6 [t.kid 0,Qid k t.a]):=⟨Qaj Qdc k0.ok (Qu2 (by have:=hs.ok.a;unfold I64 at *;omega) hs.ok.a),by
   have:=Qag 6 (t.kid 0) (Qid k t.a);rw[Qt7]at this;have:=k0.pot;unfold Yb
   omega⟩
  obtain⟨a1,b1⟩:=hK _ _ _ _ _ _ h0 h1 kk hc hy e1;obtain⟨a2,b2⟩:=Wft hK hs ht ha hlen m (k+1) (by omega) a1 (by omega) (hc.le (by omega)) h;exact⟨a2,by omega⟩
theorem Wa6{cs:List Int}{c:List T}{t:T}(hs:Sub n cs c t)(ht:t.k=24):0<=t.a/\t.ks.length=t.a.toNat+2:=by
 have h1:=(Qif hs.core).2.1;have hl:=hs.in;have hk24:Qxk t.k t.a=IntKind.i64.wrap (t.a+2):=by rw[ht];rfl
 have ha:0<=t.a:=by
  have h2:Qc3 t=true:=by
   have:Ql9 n (c.length:Int) cs t=Qc3 t:=by unfold Ql9;rw[ht];rfl
   rw[<- this];exact h1
  unfold Qc3 at h2;rw[Bool.and_eq_true,Bool.and_eq_true]at h2;exact of_decide_eq_true h2.1.2
 have hb:=hs.ok.a;unfold I64 at hb;by_cases h3:t.a<=9223372036854775805
 ·rw[Qbu (by omega) (by omega)]at hk24;exact⟨ha,by omega⟩
 ·exfalso;have h5:t.a=9223372036854775806\/t.a=9223372036854775807:=by omega
  have h6:IntKind.i64.wrap (t.a+2)<0:=by
   rcases h5 with e | e <;> (rw[e];decide)
  omega
theorem Wc2(hk:Kc l)(hI:IB l n I)(hK:KB l n K){c:List T}{t s:T}{f g:Int}(h0:0<=f)(h1:f<=19999)(hs:Sub n (l.map C.lv) c t)(hc:Cx c f)(h:ruleR l n I K c t f= .ok (s,g)):0<=g/\g<=f/\okI (f+1) g s:=by
 have h2:f<=20000:=by omega
 have hcl:=hc.len;have hcc:c.length<=1000000:=by omega
 unfold ruleR at h;by_cases hkk:t.k=1
 ·rw[if_pos hkk]at h;unfold Qfq at h;cases h;obtain⟨a,b⟩:=Qw4 hc (c.length - 1 - t.n.toNat);exact⟨h0,Int.le_refl _,Qbx (Qbe _ _ _ a) (by rw[Qcf];omega) (Int.le_refl _)⟩
 rw[if_neg hkk]at h;clear hkk;by_cases hkk:t.k=2
 ·rw[if_pos hkk]at h;unfold Qdo at h;split at h
  ·cases h;exact⟨h0,Int.le_refl _,Qbx (Qtp (Qty _)) (by have:=Qn2 (Qfm (t.ls.getD 0 []));omega) (Int.le_refl _)⟩
  ·cases h
 rw[if_neg hkk]at h;clear hkk;by_cases hkk:t.k=3
 ·rw[if_pos hkk]at h;unfold Qew at h;cases h;obtain⟨a,b⟩:=Wcj (l:=l) (fun c hc=>⟨hk.ok c hc,hk.ty c hc⟩) t.n t.ls;exact⟨h0,Int.le_refl _,Qbx a (by omega) (Int.le_refl _)⟩
 rw[if_neg hkk]at h;clear hkk;by_cases hkk:t.k=4\/t.k=12\/t.k=16
 ·rw[if_pos hkk]at h;unfold formerR at h;obtain⟨i,f1,e1,h⟩:=Rs.next_some h;obtain⟨j,f2,e2,h⟩:=Rs.next_some h;cases h;have hl:t.ks.length=2:=by rcases hkk with e | e | e <;> exact hs.ks e (m:=2)
  have b0:Qba t.k ((0:Nat):Int)=false:=by rcases hkk with e | e | e <;> (rw[e];rfl)
  have b1:Qba t.k ((1:Nat):Int)=true:=by rcases hkk with e | e | e <;> (rw[e];rfl)
  have k0:=hs.kid (i:=0) (by omega) b0;have k1:=hs.kidB (i:=1) hcc (t.kid 0) (by omega) b1;obtain⟨a1,c1, -⟩:=Qai hk.ok hI h0 h2 k0 hc e1;obtain⟨a2,c2, -⟩:=Qai hk.ok hI a1 (by omega) k1 (hc.below k0 (by omega)) e2;exact⟨a2,by omega,Qbx (Qtp (Qn8 _)) (by have:=Qn2 (Wf [i,j].flatten);omega) (by omega)⟩
 rw[if_neg hkk]at h;clear hkk;by_cases hkk:t.k=5
 ·rw[if_pos hkk]at h;unfold lamR at h;obtain⟨i,f1,e1,h⟩:=Rs.next_some h;obtain⟨s1,f2,e2,h⟩:=Rs.next_some h;cases h;have hl:=hs.ks hkk (m:=2);have k0:=hs.kid (i:=0) (by omega) (by rw[hkk];rfl);have k1:=hs.kidB (i:=1) hcc (t.kid 0) (by omega) (by rw[hkk];rfl);obtain⟨a1,c1, -⟩:=Qai hk.ok hI h0 h2 k0 hc e1;obtain⟨a2,c2,d2⟩:=hI _ _ _ _ _ a1 (by omega) k1 (hc.below k0 (by omega)) e2;refine⟨a2,by omega,Qaj Qdc k0.ok d2.1,?_⟩;have e1:=Qag 4 (t.kid 0) s1;have e2:=k0.pot;have e3:=d2.2;omega
 rw[if_neg hkk]at h;clear hkk;by_cases hkk:t.k=6
 ·rw[if_pos hkk]at h;unfold appR at h;obtain⟨s1,f1,e1,h⟩:=Rs.next_some h;obtain⟨v,f2,e2,h⟩:=Rs.next_some h;obtain⟨_,f3,e3,h⟩:=Rs.next_some h;have hl:=hs.ks hkk (m:=2);have k0:=hs.kid (i:=0) (by omega) (by rw[hkk];rfl);have k1:=hs.kid (i:=1) (by omega) (by rw[hkk];rfl);obtain⟨a1,c1,d1⟩:=hI _ _ _ _ _ h0 h2 k0 hc e1;obtain⟨a2,c2,d2,d2', -⟩:=Qbk hk.ok a1 (d1.okY h2) e2;obtain⟨a3,c3⟩:=hK _ _ _ _ _ _ a2 (by omega) k1 (hc.le (by omega)) d2 e3;obtain⟨a4,c4,d4,p4, -⟩:=Qg7 (n:=n) a3 d2'.1 k1.ok h;refine⟨a4,by omega,d4,?_⟩;have:=Qfy s;omega
 rw[if_neg hkk]at h;clear hkk;by_cases hkk:t.k=7
 ·rw[if_pos hkk]at h;unfold withinR at h;obtain⟨u,f1,e1,h⟩:=Rs.next_some h;obtain⟨a1,c1,d1⟩:=Qob hk hI hK h0 h2 hs hc hkk e1;obtain⟨a2,c2,d2⟩:=hI _ _ _ _ _ a1 (by omega) d1 (hc.le (by omega)) h;exact⟨a2,by omega,d2.at (by omega)⟩
 rw[if_neg hkk]at h;clear hkk;by_cases hkk:t.k=14\/t.k=15
 ·rw[if_pos hkk]at h;unfold halfR at h;obtain⟨s1,f1,e1,h⟩:=Rs.next_some h;obtain⟨v,f2,e2,h⟩:=Rs.next_some h;have hl:t.ks.length=1:=by rcases hkk with e | e <;> exact hs.ks e (m:=1)
  have k0:=hs.kid (i:=0) (by omega) (by rcases hkk with e | e <;> (rw[e];rfl));obtain⟨a1,c1,d1⟩:=hI _ _ _ _ _ h0 h2 k0 hc e1;obtain⟨a2,c2,d2,d2',p2⟩:=Qbk hk.ok a1 (d1.okY h2) e2;split at h
  ·cases h;refine⟨a2,by omega,d2.1,?_⟩;have:=d1.2;omega
  ·obtain⟨a4,c4,d4,p4, -⟩:=Qg7 (n:=n) a2 d2'.1 (Wfd Qdc k0.ok) h;refine⟨a4,by omega,d4,?_⟩;have:=Qfy s;omega
 rw[if_neg hkk]at h;clear hkk;by_cases hkk:t.k=18
 ·rw[if_pos hkk]at h;unfold recR at h;obtain⟨_,f1,e1,h⟩:=Rs.next_some h;obtain⟨_,f2,e2,h⟩:=Rs.next_some h;obtain⟨_,f3,e3,h⟩:=Rs.next_some h;obtain⟨_,f4,e4,h⟩:=Rs.next_some h;obtain⟨_,f5,e5,h⟩:=Rs.next_some h;cases h;have hl:=hs.ks hkk (m:=5);have k0:=hs.kid (i:=0) (by omega) (by rw[hkk];rfl);have k1:=hs.kidB (i:=1) hcc (t.kid 0) (by omega) (by rw[hkk];rfl);have k2:=hs.kid (i:=2) (by omega) (by rw[hkk];rfl);have k3:=hs.kid (i:=3) (by omega) (by rw[hkk];rfl);have k4:=hs.kid (i:=4) (by omega) (by rw[hkk];rfl);obtain⟨a1,c1, -⟩:=Qai hk.ok hI h0 h2 k0 hc e1;obtain⟨a2,c2, -⟩:=Qai hk.ok hI a1 (by omega) k1 (hc.below k0 (by omega)) e2;have p0:=k0.pot;have p1:=k1.pot;have p2:=k2.pot;have p4:=k4.pot;have hy:okY f2 (ofT 16 [t.kid 0,t.kid 1]):=⟨Qaj Qdc k0.ok k1.ok,by have:=Qag 16 (t.kid 0) (t.kid 1);unfold Yb;omega⟩;obtain⟨a3,c3⟩:=hK _ _ _ _ _ _ a2 (by omega) k4 (hc.le (by omega)) hy e3;obtain⟨a4,c4⟩:=Qgi hk.ok hI a3 (by omega) k2 (hc.le (by omega)) e4;have hst:=Qx9 k0.ok k1.ok k2.ok;obtain⟨a5,c5⟩:=hK _ _ (Qis (t.kid 0) (t.kid 1) (t.kid 2)) _ _ _ a4 (by omega) k3 (hc.le (by omega)) ⟨hst.1,by have:=hst.2;unfold Yb;omega⟩ e5;exact⟨a5,by omega,Qbx (Qaj Qdc k2.ok k4.ok) (by have:=Qag 6 (t.kid 2) (t.kid 4);omega) (by omega)⟩
 rw[if_neg hkk]at h;clear hkk;by_cases hkk:t.k=19
 ·rw[if_pos hkk]at h;unfold idR at h;obtain⟨i,f1,e1,h⟩:=Rs.next_some h;obtain⟨_,f2,e2,h⟩:=Rs.next_some h;obtain⟨_,f3,e3,h⟩:=Rs.next_some h;cases h;have hl:=hs.ks hkk (m:=3);have k0:=hs.kid (i:=0) (by omega) (by rw[hkk];rfl);have k1:=hs.kid (i:=1) (by omega) (by rw[hkk];rfl);have k2:=hs.kid (i:=2) (by omega) (by rw[hkk];rfl);obtain⟨a1,c1,d1⟩:=Qai hk.ok hI h0 h2 k0 hc e1;obtain⟨a2,c2⟩:=hK _ _ _ _ _ _ a1 (by omega) k1 (hc.le (by omega)) (k0.okY (by omega)) e2;obtain⟨a3,c3⟩:=hK _ _ _ _ _ _ a2 (by omega) k2 (hc.le (by omega)) (k0.okY (by omega)) e3;exact⟨a3,by omega,Qbx (Qtp d1) (by have:=Qn2 i;omega) (by omega)⟩
 rw[if_neg hkk]at h;clear hkk;by_cases hkk:t.k=21
 ·rw[if_pos hkk]at h;unfold pathR at h;obtain⟨_,f1,e1,h⟩:=Rs.next_some h;obtain⟨_,f2,e2,h⟩:=Rs.next_some h;obtain⟨_,f3,e3,h⟩:=Rs.next_some h;obtain⟨_,f4,e4,h⟩:=Rs.next_some h;obtain⟨s1,f5,e5,h⟩:=Rs.next_some h;obtain⟨v,f6,e6,h⟩:=Rs.next_some h;obtain⟨_,f7,e7,h⟩:=Rs.next_some h;obtain⟨w,f8,e8,h⟩:=Rs.next_some h;obtain⟨_,f9,e9,h⟩:=Rs.next_some h;obtain⟨_,f10,e10,h⟩:=Rs.next_some h;obtain⟨_,f11,e11,h⟩:=Rs.next_some h;cases h;have hl:=hs.ks hkk (m:=6);have k0:=hs.kid (i:=0) (by omega) (by rw[hkk];rfl);have k1:=hs.kid (i:=1) (by omega) (by rw[hkk];rfl);have k2:=hs.kid (i:=2) (by omega) (by rw[hkk];rfl);have k3:=hs.kid (i:=3) (by omega) (by rw[hkk];rfl);have k4:=hs.kid (i:=4) (by omega) (by rw[hkk];rfl);have k5:=hs.kid (i:=5) (by omega) (by rw[hkk];rfl);have p0:=k0.pot;have p1:=k1.pot;have p2:=k2.pot;have p4:=k4.pot;have p5:=k5.pot;obtain⟨a1,c1, -⟩:=Qai hk.ok hI h0 h2 k0 hc e1;obtain⟨a2,c2⟩:=hK _ _ _ _ _ _ a1 (by omega) k1 (hc.le (by omega)) (k0.okY (by omega)) e2;obtain⟨a3,c3⟩:=hK _ _ _ _ _ _ a2 (by omega) k4 (hc.le (by omega)) (k0.okY (by omega)) e3;have hy:okY f3 (ofT 19 [t.kid 0,t.kid 1,t.kid 4]):=⟨Qy7 Qdc k0.ok k1.ok k4.ok,by have:=Qr5 19 (t.kid 0) (t.kid 1) (t.kid 4);unfold Yb;omega⟩;obtain⟨a4,c4⟩:=hK _ _ _ _ _ _ a3 (by omega) k5 (hc.le (by omega)) hy e4;obtain⟨a5,c5,d5⟩:=hI _ _ _ _ _ a4 (by omega) k2 (hc.le (by omega)) e5;obtain⟨a6,c6,d6,d6', -⟩:=Qbk hk.ok a5 (d5.okY (by omega)) e6;obtain⟨a7,c7⟩:=Qe9 a6 e7;obtain⟨a8,c8,d8,d8', -⟩:=Qbk hk.ok a7 (d6'.le c7) e8;obtain⟨a9,c9⟩:=Qe9 a8 e9;obtain⟨a10,c10, -⟩:=Qug hk.ok a9 d8'.1 e10
  have hy2:okY f10 (ofT 6 [ofT 6 [t.kid 2,t.kid 1],ofT 20 []]):=⟨Qaj Qdc (Qaj Qdc k2.ok k1.ok) (Wfe Qdc),by
   have:=Qag 6 (ofT 6 [t.kid 2,t.kid 1]) (ofT 20 []);have:=Qag 6 (t.kid 2) (t.kid 1);have:=Qyy 20
   unfold Yb;omega⟩
  obtain⟨a11,c11⟩:=hK _ _ _ _ _ _ a10 (by omega) k3 (hc.le (by omega)) hy2 e11;exact⟨a11,by omega,Qbx (Qaj Qdc (Qaj Qdc k2.ok k4.ok) k5.ok) (by have:=Qag 6 (ofT 6 [t.kid 2,t.kid 4]) (t.kid 5);have:=Qag 6 (t.kid 2) (t.kid 4);omega) (by omega)⟩
 rw[if_neg hkk]at h;clear hkk;by_cases hkk:t.k=22
 ·rw[if_pos hkk]at h;cases h;exact⟨h0,Int.le_refl _,Qbx (Qtp ⟨by simp,fun p hp=>by cases hp⟩) (by have:=Qn2 [];omega) (Int.le_refl _)⟩
 rw[if_neg hkk]at h;clear hkk;by_cases hkk:t.k=23
 ·rw[if_pos hkk]at h;cases h;exact⟨h0,Int.le_refl _,Qbx (Qsw hs.ok.a) (by rw[Qr6];omega) (Int.le_refl _)⟩
 rw[if_neg hkk]at h;clear hkk;by_cases hkk:t.k=24
 ·rw[if_pos hkk]at h;unfold casesR at h;obtain⟨_,f1,e1,h⟩:=Rs.next_some h;obtain⟨_,f2,e2,h⟩:=Rs.next_some h;obtain⟨_,f3,e3,h⟩:=Rs.next_some h;cases h;obtain⟨ha,hl⟩:=Wa6 hs hkk;have hb:∀i:Int,Qba t.k i=false:=fun i=>by rw[hkk];exact Wbd i
  have k0:=hs.kid (i:=0) (by omega) (hb _);have kx:=hs.kid (i:=t.a.toNat+1) (by omega) (hb _);obtain⟨a1,c1⟩:=hK _ _ (Qju t.a) _ _ _ h0 h2 kx hc ⟨Qsw hs.ok.a,by rw[Qr6];unfold Yb;omega⟩ e1;obtain⟨a2,c2⟩:=Qgi hk.ok hI a1 (by omega) k0 (hc.le (by omega)) e2;obtain⟨a3,c3⟩:=Wft hK hs hkk ha hl _ 0 (by omega) a2 (by omega) (hc.le (by omega)) e3;have p0:=k0.pot;have px:=kx.pot;exact⟨a3,by omega,Qbx (Qaj Qdc k0.ok kx.ok) (by have:=Qag 6 (t.kid 0) (t.kid (t.a.toNat+1));omega) (by omega)⟩
 ·rw[if_neg hkk]at h;cases h
theorem askR_ok(hk:Kc l)(hI:IB l n I)(hK:KB l n K){c:List T}{t y:T}{f g:Int}{u:Unit}(h0:0<=f)(h1:f<=19999)(hs:Sub n (l.map C.lv) c t)(hc:Cx c f)(hy:okY (f+1) y)(h:askR l I K c t y f= .ok (u,g)):0<=g/\g<=f:=by
 have h2:f<=20000:=by omega
 have hcl:=hc.len;have hcc:c.length<=1000000:=by omega
 have hy1:=hy.le (show f<=f+1 by omega);unfold askR at h;by_cases hkk:t.k=5
 ·rw[if_pos hkk]at h;obtain⟨v,f1,e1,h⟩:=Rs.next_some h;obtain⟨_,f2,e2,h⟩:=Rs.next_some h;obtain⟨_,f3,e3,h⟩:=Rs.next_some h;have hl:=hs.ks hkk (m:=2);have k0:=hs.kid (i:=0) (by omega) (by rw[hkk];rfl);have k1:=hs.kidB (i:=1) hcc (t.kid 0) (by omega) (by rw[hkk];rfl);obtain⟨a1,c1,d1,d1', -⟩:=Qbk hk.ok h0 hy1 e1;obtain⟨a2,c2, -⟩:=Qai hk.ok hI a1 (by omega) k0 (hc.le (by omega)) e2;obtain⟨a3,c3⟩:=Qe9 a2 e3;obtain⟨a4,c4⟩:=hK _ _ _ _ _ _ a3 (by omega) k1 (hc.below k0 (by omega)) (d1'.le (by omega)) h;exact⟨a4,by omega⟩
 rw[if_neg hkk]at h;clear hkk;by_cases hkk:t.k=13
 ·rw[if_pos hkk]at h;obtain⟨v,f1,e1,h⟩:=Rs.next_some h;obtain⟨_,f2,e2,h⟩:=Rs.next_some h;obtain⟨z,f3,e3,h⟩:=Rs.next_some h;have hl:=hs.ks hkk (m:=2);have k0:=hs.kid (i:=0) (by omega) (by rw[hkk];rfl);have k1:=hs.kid (i:=1) (by omega) (by rw[hkk];rfl);obtain⟨a1,c1,d1,d1', -⟩:=Qbk hk.ok h0 hy1 e1;obtain⟨a2,c2⟩:=hK _ _ _ _ _ _ a1 (by omega) k0 (hc.le (by omega)) d1 e2;obtain⟨a3,c3,d3,p3, -⟩:=Qg7 (n:=n) a2 d1'.1 k0.ok e3;have:=Qfy z;obtain⟨a4,c4⟩:=hK _ _ (z) _ _ _ a3 (by omega) k1 (hc.le (by omega)) ⟨d3,by unfold Yb;omega⟩ h;exact⟨a4,by omega⟩
 rw[if_neg hkk]at h;clear hkk;by_cases hkk:t.k=17
 ·rw[if_pos hkk]at h;obtain⟨v,f1,e1,h⟩:=Rs.next_some h;obtain⟨_,f2,e2,h⟩:=Rs.next_some h;obtain⟨z,f3,e3,h⟩:=Rs.next_some h;have hl:=hs.ks hkk (m:=2);have k0:=hs.kid (i:=0) (by omega) (by rw[hkk];rfl);have k1:=hs.kid (i:=1) (by omega) (by rw[hkk];rfl);obtain⟨a1,c1,d1,d1',p1⟩:=Qbk hk.ok h0 hy1 e1;obtain⟨a2,c2⟩:=hK _ _ _ _ _ _ a1 (by omega) k0 (hc.le (by omega)) d1 e2;obtain⟨a3,c3,d3,p3, -⟩:=Qg7 (n:=n) a2 d1'.1 k0.ok e3;have pz:=Qfy z;have q1:=Qag 4 z (ofT 16 [v.1.lift 1 0 0,v.2.lift 1 1 0]);have q2:=Qag 16 (v.1.lift 1 0 0) (v.2.lift 1 1 0);rw[Qcf,Qcf]at q2;have q3:=hy.2;unfold Yb at q3;obtain⟨a4,c4⟩:=hK _ _ (ofT 4 [z,ofT 16 [v.1.lift 1 0 0,v.2.lift 1 1 0]]) _ _ _ a3 (by omega) k1 (hc.le (by omega)) ⟨Qaj Qdc d3 (Qaj Qdc (Qbe _ _ _ d1.1) (Qbe _ _ _ d1'.1)),by unfold Yb;omega⟩ h;exact⟨a4,by omega⟩
 rw[if_neg hkk]at h;clear hkk;by_cases hkk:t.k=20
 ·rw[if_pos hkk]at h;obtain⟨x,f1,e1,h⟩:=Rs.next_some h;obtain⟨a1,c1,d1⟩:=Qss hk.ok h0 hy1 e1;split at h
  ·obtain⟨a2,c2⟩:=Qe9 a1 h;exact⟨a2,by omega⟩
  ·cases h
 rw[if_neg hkk]at h;clear hkk;by_cases hkk:t.k=7
 ·rw[if_pos hkk]at h;obtain⟨w,f1,e1,h⟩:=Rs.next_some h;obtain⟨a1,c1,d1⟩:=Qob hk hI hK h0 h2 hs hc hkk e1;obtain⟨a2,c2⟩:=hK _ _ _ _ _ _ a1 (by omega) d1 (hc.le (by omega)) (hy1.le (by omega)) h;exact⟨a2,by omega⟩
 ·rw[if_neg hkk]at h;obtain⟨s,f1,e1,h⟩:=Rs.next_some h;obtain⟨is,f2,e2,h⟩:=Rs.next_some h;obtain⟨a1,c1,d1⟩:=hI _ _ _ _ _ h0 h2 hs hc e1;obtain⟨a2,c2⟩:=lqR_ok a1 e2;split at h
  ·cases h;exact⟨a2,by omega⟩
  ·cases h
end
theorem Qjb{l:List C}{n:Int}(hk:Kc l):∀g,IB l n (infT l n g)/\KB l n (chkT l n g)
 | 0=>by
  constructor
  ·intro c t f s g _ _ _ _ h;have h':(Except.error 5:Rs T)= .ok (s,g):=h;cases h'
  ·intro c t y f u g _ _ _ _ _ h;have h':(Except.error 5:Rs Unit)= .ok (u,g):=h;cases h'
 | k+1=>by
  obtain⟨hI,hK⟩:=Qjb hk k;constructor
  ·intro c t f s g h0 h1 hs hc h;rw[Qeq]at h;split at h
   ·cases h
   ·obtain⟨a,b,d⟩:=Wc2 hk hI hK (by omega) (by omega) hs (hc.le (by omega)) h;exact⟨a,by omega,by rw[show f - 1+1=f by omega]at d;exact d⟩
  ·intro c t y f u g h0 h1 hs hc hy h;rw[Qf6]at h;split at h
   ·cases h
   ·obtain⟨a,b⟩:=askR_ok hk hI hK (by omega) (by omega) hs (hc.le (by omega)) (by rw[show f - 1+1=f by omega];exact hy) h;exact⟨a,b⟩
end Go.Proofs.YtgloldepdhgfaaaGreatDoor
namespace Go.Proofs.YtgloldepdhgfaaaGreatDoor
set_option linter.unusedSimpArgs false
set_option linter.unusedVariables false
set_option maxHeartbeats 10000000
set_option maxRecDepth 20000
open Go.RowKit
attribute [local simp] Qx Qm Qo Qp Wn Xg opD Wc Qr Qw Wi hOf Wj Xf Xd TK.isAgg TK.known Ws Wk Qz Qh D.ofV inB Qy Wp Xy Za Zg Xc Xw Zh IntKind.min IntKind.max IntKind.signed IntKind.bits Wm Xz
def idxOf(b:Bool):List Bool ->Int ->Int
 | [],_=> -1
 | x::r,i=>if b=x then i else idxOf b r (i+1)
theorem Wec{b:Bool}{l:List Bool}{k:Nat}(h:k<l.length):idxOf b (l.drop k) k=if b=l[k] then(k:Int)else idxOf b (l.drop (k+1)) ((k+1:Nat):Int):=by
 rw[List.drop_eq_getElem_cons h,idxOf];simp
theorem Qsr(l:List Bool)(b:Bool)(hl:l.length<=Ql):Sp 196 [Ww l, .bool b] [] (rt (.int .i64 (idxOf b l 0))):=by
 obtain⟨R,hR⟩:∃R,R=idxOf b l 0:=⟨_,rfl⟩;rw[<- hR];refine eN Tryz.func196 rfl (by decide) rfl rfl ?_;unfold Ww;(refine sI fun K Z=>?_;(repeat rw[Qa];simp);refine Z ?_;clear Z K);refine Qc fun K1 hK1=>?_
 (refine sI fun K Z=>?_;(repeat rw[Qa];simp);refine Z ?_;clear Z K);refine Xm Wa Qf (ti:=3) (tk:=8) (tn:=7) (td:=9) (ts:=18) [4,5,8,9,10,11,12,13,14,15,16,17,18] [] (l.length) (fun k ys hl=>ys= []/\R=idxOf b (l.drop k) k/\hl= []) rfl rfl rfl rfl rfl rfl rfl rfl rfl rfl rfl rfl (by simp) (by decide) rfl (by first | assumption | omega | (unfold Ql;omega)) rfl (by kernel_rfl) (by decide) ?_ ?_ ?_
 ·exact⟨rfl,hR,rfl⟩
 ·rintro i ys hl A hi ⟨rfl,hF,rfl⟩ hA hA2;simp only[Qh,List.set,List.map_cons,List.map_nil,List.cons_append,List.nil_append];have hi':(i:Int)<l.length:=by omega
  rw[Wec hi]at hF;obtain⟨x,hx⟩:∃x,l[i]=x:=⟨_,rfl⟩;rw[hx]at hF;(refine sI fun K Z=>?_;(repeat rw[Qa];simp);refine Z ?_;clear Z K);(refine sI fun K Z=>?_;(repeat rw[Qa];simp[hi,hi',hx,Qr9]);refine Z ?_;clear Z K);by_cases hb:b=x
  ·rw[if_pos hb]at hF;subst hb;refine Qac rfl (fun _=>?_) (fun h=>absurd h (by simp));(refine sI fun K Z=>?_;(repeat rw[Qa];simp);refine Z ?_;clear Z K);(refine Qe ?_;(try simp only[zs]);refine Qk.ret rfl (.inl ?_);simp[zM]);exact hF.symm
  ·rw[if_neg hb]at hF;refine Qac rfl (fun h=>absurd (by simpa using h) hb) (fun _=>?_);refine Qg ?_;(refine hA2 ([]) _ _ _ (LeT.refl _) (by decide) (by simp) (by simp[zM,Qh]) ?_ rfl;simp[zM]);exact hF
 ·rintro ys hl tl' ⟨rfl,hF,rfl⟩ htl;refine hK1 _ _ _ (Xo htl ?_);simp only[Qh,List.set,List.map_cons,List.map_nil,List.cons_append,List.nil_append];rw[List.drop_length,idxOf]at hF;subst hF;(refine sI fun K Z=>?_;(repeat rw[Qa];simp);refine Z ?_;clear Z K);(refine Qe ?_;(try simp only[zs]);refine Qk.ret rfl (.inl ?_);simp[zM])
theorem Waa:∀(l:List Bool) (b:Bool) (i:Int),0<=i ->(0<=idxOf b l i↔b∈l)
 | [],b,i,h=>by simp[idxOf]
 | x::r,b,i,h=>by
  rw[idxOf];by_cases hx:b=x
  ·simp[hx,h]
  ·rw[if_neg hx,Waa r b (i+1) (by omega)];simp[hx]
theorem Ql7(l:List Bool)(b:Bool)(hl:l.length<=Ql):Sp 150 [Ww l, .bool b] [] (rt (.bool (decide (b∈l)))):=by
 refine eN Tryz.func150 rfl (by decide) rfl rfl ?_;unfold Ww;(refine sI fun K Z=>?_;(repeat rw[Qa];simp);refine Z ?_;clear Z K);(refine sR fun K hK=>?_;(repeat rw[Qa];simp));refine Wl.pure Qf (Qsr l b hl) ?_ (by simp[D.fgts,D.fgt,Ww]) (by simp[D.pures,D.pure,Cp.free,D.pures_map,Ww]) (by simp[Out.pure,D.pure,D.pures,Cp.free,D.pures_map,Ww]);(try simp only[zr]);(repeat rw[Qa];simp);(refine hK _ _ _ ?_;clear hK K);(refine Qe ?_;(try simp only[zs]);refine Qk.ret rfl (.inl ?_);simp[zM]);exact Waa l b 0 (by omega)
def We:D:= .iface 146 (.agg [])
theorem Qpz(l:List Bool)(hl:l.length<=Ql):Sp 104 [Ww l] [] (fun o _=>o.fgt=if false∈l then .pan We else .ret (.tuple [])):=by
 refine eN Tryz.func104 rfl (by decide) rfl rfl ?_;unfold Ww;(refine sR fun K hK=>?_;(repeat rw[Qa];simp));refine Wl.pure Qf (Ql7 l false hl) ?_ (by simp[D.fgts,D.fgt,Ww]) (by simp[D.pures,D.pure,Cp.free,D.pures_map,Ww]) (by simp[Out.pure,D.pure,D.pures,Cp.free,D.pures_map,Ww]);(try simp only[zr]);(repeat rw[Qa];simp);(refine hK _ _ _ ?_;clear hK K);refine Qac rfl (fun h=>?_) (fun h=>?_)
 ·replace h:false∈l:=by simpa using h
  (refine Qi Wa ?_;(repeat rw[Qa];simp));((try simp only[zs]);refine Qk.pan (.inl ?_);simp[Out.fgt,D.fgt,D.fgts]);simp[h,We]
 ·replace h:¬ false∈l:=by simpa using h
  refine Qg ?_;((try simp only[zs]);refine Qk.nrm rfl (.inl ?_);simp[zM]);simp[h]
theorem Qc9(l:List Bool)(h:l.all id=true)(hl:l.length<=Ql:=by simp[Ql]):Sp 104 [Ww l] [] (rt (.tuple [])):=by
 have:=Qpz l hl;rw[if_neg (by simpa using h)]at this;exact this
theorem Qda(l:List Bool)(h:l.all id=false)(hl:l.length<=Ql:=by simp[Ql]):Sp 104 [Ww l] [] (fun o _=>o.fgt= .pan We):=by
 have:=Qpz l hl;rw[if_pos (by simpa using h)]at this;exact this
def Xt(b:Bool)(d:D):Out:=if b then .ret d else .pan We
theorem Qex(t:T):Sp 198 [Qj t] [] (fun o _=>o.fgt=Xt (Qf9 t) (.tuple [])):=by
 refine eN Tryz.func198 rfl (by decide) rfl rfl ?_;(refine sI fun K Z=>?_;(repeat rw[Qa];simp);refine Z ?_;clear Z K);cases hb:Qf9 t with
 | true =>
  (refine Qi Wa ?_;(repeat rw[Qa];simp));refine Wl.pure Qf (Qc9 [decide (t.n=0),decide (t.a=0),decide (t.ls= [])] (by simpa [Qf9,and_assoc]using hb)) ?_ (by simp[D.fgts,D.fgt,Ww]) (by simp[D.pures,D.pure,Cp.free,D.pures_map,Ww]) (by simp[Out.pure,D.pure,D.pures,Cp.free,D.pures_map,Ww]);(try simp only[zr]);(repeat rw[Qa];simp);((try simp only[zs]);refine Qk.nrm rfl (.inl ?_);simp[zM]);rfl
 | false =>
  (refine Qi Wa ?_;(repeat rw[Qa];simp));refine Wl.pure Qf (Qda [decide (t.n=0),decide (t.a=0),decide (t.ls= [])] (by simpa [Qf9, -Bool.and_eq_false_imp,Bool.and_assoc]using hb)) ?_ (by simp[D.fgts,D.fgt,Ww,We]) (by simp[D.pures,D.pure,Cp.free,D.pures_map,Ww,We]) (by simp[Out.pure,D.pure,D.pures,Cp.free,D.pures_map,Ww,We]);(try simp only[zr]);(repeat rw[Qa];simp);((try simp only[zs]);refine Qk.pan (.inl ?_);simp[Out.fgt,D.fgt,D.fgts]);rfl
def Qb7(n sc:Int):D:= .agg [.int .i64 n, .int .i64 sc]
theorem Qrx(n sc m:Int):Sp 164 [Qb7 n sc, .int .i64 m] [] (rt (Qb7 n (IntKind.i64.wrap (sc+m)))):=by
 refine eN Tryz.func164 rfl (by decide) rfl rfl ?_;unfold Qb7;(refine sI fun K Z=>?_;(repeat rw[Qa];simp);refine Z ?_;clear Z K);(refine sI fun K Z=>?_;(repeat rw[Qa];simp);refine Z ?_;clear Z K);(refine Qe ?_;(try simp only[zs]);refine Qk.ret rfl (.inl ?_);simp[zM])
def Qfh:List (Int×FuncId):= [(1,151),(2,152),(3,153),(4,154),(5,154),(6,154),(7,155),
 (12,154),(13,154),(14,156),(15,156),(16,154),(17,154),(18,157),(19,155),
 (20,158),(21,159),(22,160),(23,161),(24,162)]
def Qec:List D:=Qfh.map fun p=> .int .i64 p.1
def Qea:List D:=Qfh.map fun p=> .fn (.func p.2) [] []
def Qay:D:= .mapc Qec Qea
@[simp high] theorem coreMap_fgt:Qay.fgt=Qay:=rfl
@[simp high] theorem Qeb:Qay.pure=true:=by kernel_rfl
@[simp high] theorem coreMap_one:Qay.one=true:=rfl
@[simp high] theorem Wer:Qay.cells= [Qay]:=rfl
@[simp high] theorem Wfm:Qay.size=1:=rfl
@[simp high] theorem coreMap_frz (bx:FK) (i:Nat) (x:D):D.frz bx i x Qay=Qay:=D.frz_pure bx i x _ Qeb
@[simp high] theorem coreMap_low (m:Nat):Qay.low m=true:=D.low_pure m _ Qeb
@[simp high] theorem Qih:D.pures Qec=true:=by kernel_rfl
@[simp high] theorem Qig:D.pures Qea=true:=by kernel_rfl
@[simp high] theorem Wfo (p:Nat ->Bool):D.okNs p Qec=true:=D.okNs_pure p _ Qih
@[simp high] theorem Wfl (p:Nat ->Bool):D.okNs p Qea=true:=D.okNs_pure p _ Qig
@[simp high] theorem Wfn (σ:Nat ->Nat):D.rens σ Qec=Qec:=D.rens_pure σ _ Qih
@[simp high] theorem Wfk (σ:Nat ->Nat):D.rens σ Qea=Qea:=D.rens_pure σ _ Qig
@[simp high] theorem coreMap_okN (p:Nat ->Bool):D.okN p Qay=true:=D.okN_pure p _ Qeb
@[simp high] theorem coreMap_ren (σ:Nat ->Nat):D.ren σ Qay=Qay:=D.ren_pure σ _ Qeb
def Qcc(n sc:Int)(cs:List Int):D:= .agg [.int .i64 n, .int .i64 sc,Qeg cs,Qay]
theorem Wcl(n sc:Int)(cs:List Int)(t:T):Sp 154 [Qcc n sc cs,Qj t] [] (fun o _=>o.fgt=Xt (Qf9 t) (.int .i64 2)):=by
 refine eN Tryz.func154 rfl (by decide) rfl rfl ?_;unfold Qcc Qeg;(refine sI fun K Z=>?_;(repeat rw[Qa];simp);refine Z ?_;clear Z K);have hb:=Qex t;cases h:Qf9 t with
 | true =>
  simp only[h,Xt,if_true,if_false,Bool.false_eq_true]at hb;(refine sR fun K hK=>?_;(repeat rw[Qa];simp));refine Wl.pure Qf (hb) ?_ (by simp[D.fgts,D.fgt,Qb t]) (by simp[D.pures,D.pure,Cp.free,D.pures_map,Qb t]) (by simp[Out.pure,D.pure,D.pures,Cp.free,D.pures_map,Qb t]);(try simp only[zr]);(repeat rw[Qa];simp);(refine hK _ _ _ ?_;clear hK K);(refine sI fun K Z=>?_;(repeat rw[Qa];simp);refine Z ?_;clear Z K);(refine Qe ?_;(try simp only[zs]);refine Qk.ret rfl (.inl ?_);simp[zM]);rfl
 | false =>
  simp only[h,Xt,if_true,if_false,Bool.false_eq_true]at hb;(refine sR fun K hK=>?_;(repeat rw[Qa];simp));refine Wl.pure Qf (hb) ?_ (by simp[D.fgts,D.fgt,Qb t,We]) (by simp[D.pures,D.pure,Cp.free,D.pures_map,Qb t,We]) (by simp[Out.pure,D.pure,D.pures,Cp.free,D.pures_map,Qb t,We]);(try simp only[zr]);(repeat rw[Qa];simp);((try simp only[zs]);refine Qk.pan (.inl ?_);simp[Out.fgt,D.fgt,D.fgts]);rfl
theorem Qvo(n sc:Int)(cs:List Int)(t:T):Sp 155 [Qcc n sc cs,Qj t] [] (fun o _=>o.fgt=Xt (Qf9 t) (.int .i64 3)):=by
 refine eN Tryz.func155 rfl (by decide) rfl rfl ?_;unfold Qcc Qeg;(refine sI fun K Z=>?_;(repeat rw[Qa];simp);refine Z ?_;clear Z K);have hb:=Qex t;cases h:Qf9 t with
 | true =>
  simp only[h,Xt,if_true,if_false,Bool.false_eq_true]at hb;(refine sR fun K hK=>?_;(repeat rw[Qa];simp));refine Wl.pure Qf (hb) ?_ (by simp[D.fgts,D.fgt,Qb t]) (by simp[D.pures,D.pure,Cp.free,D.pures_map,Qb t]) (by simp[Out.pure,D.pure,D.pures,Cp.free,D.pures_map,Qb t]);(try simp only[zr]);(repeat rw[Qa];simp);(refine hK _ _ _ ?_;clear hK K);(refine sI fun K Z=>?_;(repeat rw[Qa];simp);refine Z ?_;clear Z K);(refine Qe ?_;(try simp only[zs]);refine Qk.ret rfl (.inl ?_);simp[zM]);rfl
 | false =>
  simp only[h,Xt,if_true,if_false,Bool.false_eq_true]at hb;(refine sR fun K hK=>?_;(repeat rw[Qa];simp));refine Wl.pure Qf (hb) ?_ (by simp[D.fgts,D.fgt,Qb t,We]) (by simp[D.pures,D.pure,Cp.free,D.pures_map,Qb t,We]) (by simp[Out.pure,D.pure,D.pures,Cp.free,D.pures_map,Qb t,We]);(try simp only[zr]);(repeat rw[Qa];simp);((try simp only[zs]);refine Qk.pan (.inl ?_);simp[Out.fgt,D.fgt,D.fgts]);rfl
theorem Wdk(n sc:Int)(cs:List Int)(t:T):Sp 156 [Qcc n sc cs,Qj t] [] (fun o _=>o.fgt=Xt (Qf9 t) (.int .i64 1)):=by
 refine eN Tryz.func156 rfl (by decide) rfl rfl ?_;unfold Qcc Qeg;(refine sI fun K Z=>?_;(repeat rw[Qa];simp);refine Z ?_;clear Z K);have hb:=Qex t;cases h:Qf9 t with
 | true =>
  simp only[h,Xt,if_true,if_false,Bool.false_eq_true]at hb;(refine sR fun K hK=>?_;(repeat rw[Qa];simp));refine Wl.pure Qf (hb) ?_ (by simp[D.fgts,D.fgt,Qb t]) (by simp[D.pures,D.pure,Cp.free,D.pures_map,Qb t]) (by simp[Out.pure,D.pure,D.pures,Cp.free,D.pures_map,Qb t]);(try simp only[zr]);(repeat rw[Qa];simp);(refine hK _ _ _ ?_;clear hK K);(refine sI fun K Z=>?_;(repeat rw[Qa];simp);refine Z ?_;clear Z K);(refine Qe ?_;(try simp only[zs]);refine Qk.ret rfl (.inl ?_);simp[zM]);rfl
 | false =>
  simp only[h,Xt,if_true,if_false,Bool.false_eq_true]at hb;(refine sR fun K hK=>?_;(repeat rw[Qa];simp));refine Wl.pure Qf (hb) ?_ (by simp[D.fgts,D.fgt,Qb t,We]) (by simp[D.pures,D.pure,Cp.free,D.pures_map,Qb t,We]) (by simp[Out.pure,D.pure,D.pures,Cp.free,D.pures_map,Qb t,We]);(try simp only[zr]);(repeat rw[Qa];simp);((try simp only[zs]);refine Qk.pan (.inl ?_);simp[Out.fgt,D.fgt,D.fgts]);rfl
theorem Wal(n sc:Int)(cs:List Int)(t:T):Sp 157 [Qcc n sc cs,Qj t] [] (fun o _=>o.fgt=Xt (Qf9 t) (.int .i64 5)):=by
 refine eN Tryz.func157 rfl (by decide) rfl rfl ?_;unfold Qcc Qeg;(refine sI fun K Z=>?_;(repeat rw[Qa];simp);refine Z ?_;clear Z K);have hb:=Qex t;cases h:Qf9 t with
 | true =>
  simp only[h,Xt,if_true,if_false,Bool.false_eq_true]at hb;(refine sR fun K hK=>?_;(repeat rw[Qa];simp));refine Wl.pure Qf (hb) ?_ (by simp[D.fgts,D.fgt,Qb t]) (by simp[D.pures,D.pure,Cp.free,D.pures_map,Qb t]) (by simp[Out.pure,D.pure,D.pures,Cp.free,D.pures_map,Qb t]);(try simp only[zr]);(repeat rw[Qa];simp);(refine hK _ _ _ ?_;clear hK K);(refine sI fun K Z=>?_;(repeat rw[Qa];simp);refine Z ?_;clear Z K);(refine Qe ?_;(try simp only[zs]);refine Qk.ret rfl (.inl ?_);simp[zM]);rfl
 | false =>
  simp only[h,Xt,if_true,if_false,Bool.false_eq_true]at hb;(refine sR fun K hK=>?_;(repeat rw[Qa];simp));refine Wl.pure Qf (hb) ?_ (by simp[D.fgts,D.fgt,Qb t,We]) (by simp[D.pures,D.pure,Cp.free,D.pures_map,Qb t,We]) (by simp[Out.pure,D.pure,D.pures,Cp.free,D.pures_map,Qb t,We]);(try simp only[zr]);(repeat rw[Qa];simp);((try simp only[zs]);refine Qk.pan (.inl ?_);simp[Out.fgt,D.fgt,D.fgts]);rfl
theorem Qzt(n sc:Int)(cs:List Int)(t:T):Sp 158 [Qcc n sc cs,Qj t] [] (fun o _=>o.fgt=Xt (Qf9 t) (.int .i64 0)):=by
 refine eN Tryz.func158 rfl (by decide) rfl rfl ?_;unfold Qcc Qeg;(refine sI fun K Z=>?_;(repeat rw[Qa];simp);refine Z ?_;clear Z K);have hb:=Qex t;cases h:Qf9 t with
 | true =>
  simp only[h,Xt,if_true,if_false,Bool.false_eq_true]at hb;(refine sR fun K hK=>?_;(repeat rw[Qa];simp));refine Wl.pure Qf (hb) ?_ (by simp[D.fgts,D.fgt,Qb t]) (by simp[D.pures,D.pure,Cp.free,D.pures_map,Qb t]) (by simp[Out.pure,D.pure,D.pures,Cp.free,D.pures_map,Qb t]);(try simp only[zr]);(repeat rw[Qa];simp);(refine hK _ _ _ ?_;clear hK K);(refine sI fun K Z=>?_;(repeat rw[Qa];simp);refine Z ?_;clear Z K);(refine Qe ?_;(try simp only[zs]);refine Qk.ret rfl (.inl ?_);simp[zM]);rfl
 | false =>
  simp only[h,Xt,if_true,if_false,Bool.false_eq_true]at hb;(refine sR fun K hK=>?_;(repeat rw[Qa];simp));refine Wl.pure Qf (hb) ?_ (by simp[D.fgts,D.fgt,Qb t,We]) (by simp[D.pures,D.pure,Cp.free,D.pures_map,Qb t,We]) (by simp[Out.pure,D.pure,D.pures,Cp.free,D.pures_map,Qb t,We]);(try simp only[zr]);(repeat rw[Qa];simp);((try simp only[zs]);refine Qk.pan (.inl ?_);simp[Out.fgt,D.fgt,D.fgts]);rfl
theorem Wcz(n sc:Int)(cs:List Int)(t:T):Sp 159 [Qcc n sc cs,Qj t] [] (fun o _=>o.fgt=Xt (Qf9 t) (.int .i64 6)):=by
 refine eN Tryz.func159 rfl (by decide) rfl rfl ?_;unfold Qcc Qeg;(refine sI fun K Z=>?_;(repeat rw[Qa];simp);refine Z ?_;clear Z K);have hb:=Qex t;cases h:Qf9 t with
 | true =>
  simp only[h,Xt,if_true,if_false,Bool.false_eq_true]at hb;(refine sR fun K hK=>?_;(repeat rw[Qa];simp));refine Wl.pure Qf (hb) ?_ (by simp[D.fgts,D.fgt,Qb t]) (by simp[D.pures,D.pure,Cp.free,D.pures_map,Qb t]) (by simp[Out.pure,D.pure,D.pures,Cp.free,D.pures_map,Qb t]);(try simp only[zr]);(repeat rw[Qa];simp);(refine hK _ _ _ ?_;clear hK K);(refine sI fun K Z=>?_;(repeat rw[Qa];simp);refine Z ?_;clear Z K);(refine Qe ?_;(try simp only[zs]);refine Qk.ret rfl (.inl ?_);simp[zM]);rfl
 | false =>
  simp only[h,Xt,if_true,if_false,Bool.false_eq_true]at hb;(refine sR fun K hK=>?_;(repeat rw[Qa];simp));refine Wl.pure Qf (hb) ?_ (by simp[D.fgts,D.fgt,Qb t,We]) (by simp[D.pures,D.pure,Cp.free,D.pures_map,Qb t,We]) (by simp[Out.pure,D.pure,D.pures,Cp.free,D.pures_map,Qb t,We]);(try simp only[zr]);(repeat rw[Qa];simp);((try simp only[zs]);refine Qk.pan (.inl ?_);simp[Out.fgt,D.fgt,D.fgts]);rfl
theorem Qnd(n sc:Int)(cs:List Int)(t:T):Sp 151 [Qcc n sc cs,Qj t] [] (fun o _=>o.fgt=Xt (Qcd sc t) (.int .i64 0)):=by
 refine eN Tryz.func151 rfl (by decide) rfl rfl ?_;unfold Qcc Qeg;(refine sI fun K Z=>?_;(repeat rw[Qa];simp);refine Z ?_;clear Z K);cases h:Qcd sc t with
 | true =>
  (refine sR fun K hK=>?_;(repeat rw[Qa];simp));refine Wl.pure Qf (Qc9 [decide (0<=t.n),decide (t.n<sc),decide (t.a=0),decide (t.ls= [])] (by simpa [Qcd,and_assoc]using h)) ?_ (by simp[D.fgts,D.fgt,Ww]) (by simp[D.pures,D.pure,Cp.free,D.pures_map,Ww]) (by simp[Out.pure,D.pure,D.pures,Cp.free,D.pures_map,Ww]);(try simp only[zr]);(repeat rw[Qa];simp);(refine hK _ _ _ ?_;clear hK K);(refine sI fun K Z=>?_;(repeat rw[Qa];simp);refine Z ?_;clear Z K);(refine Qe ?_;(try simp only[zs]);refine Qk.ret rfl (.inl ?_);simp[zM]);rfl
 | false =>
  (refine sR fun K hK=>?_;(repeat rw[Qa];simp));refine Wl.pure Qf (Qda [decide (0<=t.n),decide (t.n<sc),decide (t.a=0),decide (t.ls= [])] (by simpa [Qcd, -Bool.and_eq_false_imp,Bool.and_assoc]using h)) ?_ (by simp[D.fgts,D.fgt,Ww,We]) (by simp[D.pures,D.pure,Cp.free,D.pures_map,Ww,We]) (by simp[Out.pure,D.pure,D.pures,Cp.free,D.pures_map,Ww,We]);(try simp only[zr]);(repeat rw[Qa];simp);((try simp only[zs]);refine Qk.pan (.inl ?_);simp[Out.fgt,D.fgt,D.fgts]);rfl
theorem Weh(n sc:Int)(cs:List Int)(t:T):Sp 160 [Qcc n sc cs,Qj t] [] (fun o _=>o.fgt=Xt (finB t) (.int .i64 0)):=by
 refine eN Tryz.func160 rfl (by decide) rfl rfl ?_;unfold Qcc Qeg;(refine sI fun K Z=>?_;(repeat rw[Qa];simp);refine Z ?_;clear Z K);cases h:finB t with
 | true =>
  (refine sR fun K hK=>?_;(repeat rw[Qa];simp));refine Wl.pure Qf (Qc9 [decide (0<=t.n),decide (t.a=0),decide (t.ls= [])] (by simpa [finB,and_assoc]using h)) ?_ (by simp[D.fgts,D.fgt,Ww]) (by simp[D.pures,D.pure,Cp.free,D.pures_map,Ww]) (by simp[Out.pure,D.pure,D.pures,Cp.free,D.pures_map,Ww]);(try simp only[zr]);(repeat rw[Qa];simp);(refine hK _ _ _ ?_;clear hK K);(refine sI fun K Z=>?_;(repeat rw[Qa];simp);refine Z ?_;clear Z K);(refine Qe ?_;(try simp only[zs]);refine Qk.ret rfl (.inl ?_);simp[zM]);rfl
 | false =>
  (refine sR fun K hK=>?_;(repeat rw[Qa];simp));refine Wl.pure Qf (Qda [decide (0<=t.n),decide (t.a=0),decide (t.ls= [])] (by simpa [finB, -Bool.and_eq_false_imp,Bool.and_assoc]using h)) ?_ (by simp[D.fgts,D.fgt,Ww,We]) (by simp[D.pures,D.pure,Cp.free,D.pures_map,Ww,We]) (by simp[Out.pure,D.pure,D.pures,Cp.free,D.pures_map,Ww,We]);(try simp only[zr]);(repeat rw[Qa];simp);((try simp only[zs]);refine Qk.pan (.inl ?_);simp[Out.fgt,D.fgt,D.fgts]);rfl
theorem Waw(n sc:Int)(cs:List Int)(t:T):Sp 161 [Qcc n sc cs,Qj t] [] (fun o _=>o.fgt=Xt (Wax t) (.int .i64 0)):=by
 refine eN Tryz.func161 rfl (by decide) rfl rfl ?_;unfold Qcc Qeg;(refine sI fun K Z=>?_;(repeat rw[Qa];simp);refine Z ?_;clear Z K);cases h:Wax t with
 | true =>
  (refine sR fun K hK=>?_;(repeat rw[Qa];simp));refine Wl.pure Qf (Qc9 [decide (0<=t.n),decide (t.n<t.a),decide (t.ls= [])] (by simpa [Wax,and_assoc]using h)) ?_ (by simp[D.fgts,D.fgt,Ww]) (by simp[D.pures,D.pure,Cp.free,D.pures_map,Ww]) (by simp[Out.pure,D.pure,D.pures,Cp.free,D.pures_map,Ww]);(try simp only[zr]);(repeat rw[Qa];simp);(refine hK _ _ _ ?_;clear hK K);(refine sI fun K Z=>?_;(repeat rw[Qa];simp);refine Z ?_;clear Z K);(refine Qe ?_;(try simp only[zs]);refine Qk.ret rfl (.inl ?_);simp[zM]);rfl
 | false =>
  (refine sR fun K hK=>?_;(repeat rw[Qa];simp));refine Wl.pure Qf (Qda [decide (0<=t.n),decide (t.n<t.a),decide (t.ls= [])] (by simpa [Wax, -Bool.and_eq_false_imp,Bool.and_assoc]using h)) ?_ (by simp[D.fgts,D.fgt,Ww,We]) (by simp[D.pures,D.pure,Cp.free,D.pures_map,Ww,We]) (by simp[Out.pure,D.pure,D.pures,Cp.free,D.pures_map,Ww,We]);(try simp only[zr]);(repeat rw[Qa];simp);((try simp only[zs]);refine Qk.pan (.inl ?_);simp[Out.fgt,D.fgt,D.fgts]);rfl
theorem Qov(n sc:Int)(cs:List Int)(t:T):Sp 162 [Qcc n sc cs,Qj t] [] (fun o _=>o.fgt=Xt (Qc3 t) (.int .i64 (IntKind.i64.wrap (t.a+2)))):=by
 refine eN Tryz.func162 rfl (by decide) rfl rfl ?_;unfold Qcc Qeg;(refine sI fun K Z=>?_;(repeat rw[Qa];simp);refine Z ?_;clear Z K);cases h:Qc3 t with
 | true =>
  (refine sR fun K hK=>?_;(repeat rw[Qa];simp));refine Wl.pure Qf (Qc9 [decide (t.n=0),decide (0<=t.a),decide (t.ls= [])] (by simpa [Qc3,and_assoc]using h)) ?_ (by simp[D.fgts,D.fgt,Ww]) (by simp[D.pures,D.pure,Cp.free,D.pures_map,Ww]) (by simp[Out.pure,D.pure,D.pures,Cp.free,D.pures_map,Ww]);(try simp only[zr]);(repeat rw[Qa];simp);(refine hK _ _ _ ?_;clear hK K);(refine sI fun K Z=>?_;(repeat rw[Qa];simp);refine Z ?_;clear Z K);(refine Qe ?_;(try simp only[zs]);refine Qk.ret rfl (.inl ?_);simp[zM]);rfl
 | false =>
  (refine sR fun K hK=>?_;(repeat rw[Qa];simp));refine Wl.pure Qf (Qda [decide (t.n=0),decide (0<=t.a),decide (t.ls= [])] (by simpa [Qc3, -Bool.and_eq_false_imp,Bool.and_assoc]using h)) ?_ (by simp[D.fgts,D.fgt,Ww,We]) (by simp[D.pures,D.pure,Cp.free,D.pures_map,Ww,We]) (by simp[Out.pure,D.pure,D.pures,Cp.free,D.pures_map,Ww,We]);(try simp only[zr]);(repeat rw[Qa];simp);((try simp only[zs]);refine Qk.pan (.inl ?_);simp[Out.fgt,D.fgt,D.fgts]);rfl
theorem Qfu(n sc:Int)(ls:List LV)(hl:ls.length<=Ql)(hls:∀l,l∈ls ->l.length<=Ql):Sp 197 [Qb7 n sc,Lvs ls] [] (fun o _=>o.fgt=Xt (ls.all fun l=>Xn l n) (.tuple [])):=by
 obtain⟨R,hR⟩:∃R,R=ls.all fun l=>Xn l n:=⟨_,rfl⟩
 rw[<- hR];refine eN Tryz.func197 rfl (by decide) rfl rfl ?_;unfold Qb7 Lvs;(refine sI fun K Z=>?_;(repeat rw[Qa];simp);refine Z ?_;clear Z K);(refine sI fun K Z=>?_;(repeat rw[Qa];simp);refine Z ?_;clear Z K);refine Xm Wa Qf (ti:=3) (tk:=8) (tn:=7) (td:=9) (ts:=18) [5,8,9,10,11,12,13,14,15,16,17,18] [] (ls.length) (fun k ys hl=>ys= []/\R=((ls.drop k).all fun l=>Xn l n)/\hl= [.cells 150 [.int .i64 n, .int .i64 sc]]) rfl rfl rfl rfl rfl rfl rfl rfl rfl rfl rfl rfl (by simp) (by decide) rfl (by first | assumption | omega | (unfold Ql;omega)) rfl (by kernel_rfl) (by decide) ?_ ?_ ?_
 ·exact⟨rfl,hR,rfl⟩
 ·rintro i ys hl A hi ⟨rfl,hF,rfl⟩ hA hA2;simp only[Qh,List.set,List.map_cons,List.map_nil,List.cons_append,List.nil_append];have hi':(i:Int)<ls.length:=by omega
  rw[List.drop_eq_getElem_cons hi,List.all_cons]at hF;have hlr:=Qf1 ls[i] n (hls _ (List.getElem_mem hi));obtain⟨x,hx⟩:∃x,ls[i]=x:=⟨_,rfl⟩;rw[hx]at hF hlr;unfold Qn at hlr;generalize Xn x n=B at hF hlr;(refine sI fun K Z=>?_;(repeat rw[Qa];simp[hi,hi',hx,Qn]);refine Z ?_;clear Z K);cases B with
  | true =>
   (refine Qi Wa ?_;(repeat rw[Qa];simp));refine cXr (hlr) ?_
   (repeat rw[Qa];simp)
   refine Wl.pure Qf (Qc9 [true] rfl) ?_ (by simp[D.fgts,D.fgt,Ww]) (by simp[D.pures,D.pure,Cp.free,D.pures_map,Ww]) (by simp[Out.pure,D.pure,D.pures,Cp.free,D.pures_map,Ww]);(try simp only[zr]);(repeat rw[Qa];simp);(refine hA2 ([0]) _ _ _ (LeT.refl _) (by decide) (by simp) (by simp[zM,Qh]) ?_ rfl;simp[zM]);simpa using hF
  | false =>
   (refine Qi Wa ?_;(repeat rw[Qa];simp));refine cXr (hlr) ?_
   (repeat rw[Qa];simp)
   refine Wl.pure Qf (Qda [false] rfl) ?_ (by simp[D.fgts,D.fgt,Ww,We]) (by simp[D.pures,D.pure,Cp.free,D.pures_map,Ww,We]) (by simp[Out.pure,D.pure,D.pures,Cp.free,D.pures_map,Ww,We]);(try simp only[zr]);(repeat rw[Qa];simp);((try simp only[zs]);refine Qk.pan (.inl ?_);simp[Out.fgt,D.fgt,D.fgts]);rw[hF];rfl
 ·rintro ys hl tl' ⟨rfl,hF,rfl⟩ htl;rw[List.drop_length]at hF;subst hF;((try simp only[zs]);refine Qk.nrm rfl (.inl ?_);simp[zM]);rfl
theorem Qht(n sc:Int)(ls:List LV)(hl:ls.length<=Ql)(hls:∀l,l∈ls ->l.length<=Ql)(h:(ls.all fun l=>Xn l n)=true):Sp 197 [Qb7 n sc,Lvs ls] [] (rt (.tuple [])):=by
 have:=Qfu n sc ls hl hls;rw[h]at this;exact this
theorem Qhu(n sc:Int)(ls:List LV)(hl:ls.length<=Ql)(hls:∀l,l∈ls ->l.length<=Ql)(h:(ls.all fun l=>Xn l n)=false):Sp 197 [Qb7 n sc,Lvs ls] [] (fun o _=>o.fgt= .pan We):=by
 have:=Qfu n sc ls hl hls;rw[h]at this;exact this
theorem Qyb(n sc:Int)(cs:List Int)(t:T)(hl:t.ls.length<=Ql)(hls:∀l,l∈t.ls ->l.length<=Ql):Sp 152 [Qcc n sc cs,Qj t] [] (fun o _=>o.fgt=Xt (Qpg n t) (.int .i64 0)):=by
 refine eN Tryz.func152 rfl (by decide) rfl rfl ?_;unfold Qcc Qeg;(refine sI fun K Z=>?_;(repeat rw[Qa];simp);refine Z ?_;clear Z K);have e1:decide ((t.ls.length:Int)=1)=decide (t.ls.length=1):=by congr 1;exact propext (by omega)
 cases h:decide (t.n=0) && decide (t.a=0) && decide (t.ls.length=1)with
 | false =>
  (refine sR fun K hK=>?_;(repeat rw[Qa];simp[e1]));refine Wl.pure Qf (Qda [decide (t.n=0),decide (t.a=0),decide (t.ls.length=1)] (by simpa [-Bool.and_eq_false_imp,Bool.and_assoc]using h)) ?_ (by simp[D.fgts,D.fgt,Ww,We,e1]) (by simp[D.pures,D.pure,Cp.free,D.pures_map,Ww,We,e1]) (by simp[Out.pure,D.pure,D.pures,Cp.free,D.pures_map,Ww,We,e1]);(try simp only[zr]);(repeat rw[Qa];simp);((try simp only[zs]);refine Qk.pan (.inl ?_);simp[Out.fgt,D.fgt,D.fgts]);simp[Qpg,h,Xt,We];rfl
 | true =>
  (refine sR fun K hK=>?_;(repeat rw[Qa];simp[e1]));refine Wl.pure Qf (Qc9 [decide (t.n=0),decide (t.a=0),decide (t.ls.length=1)] (by simpa [and_assoc]using h)) ?_ (by simp[D.fgts,D.fgt,Ww,e1]) (by simp[D.pures,D.pure,Cp.free,D.pures_map,Ww,e1]) (by simp[Out.pure,D.pure,D.pures,Cp.free,D.pures_map,Ww,e1]);(try simp only[zr]);(repeat rw[Qa];simp);(refine hK _ _ _ ?_;clear hK K);cases h2:t.ls.all fun l=>Xn l n with
  | false =>
   (refine sR fun K hK=>?_;(repeat rw[Qa];simp));refine Wl.pure Qf (Qhu n sc t.ls hl hls h2) ?_ (by simp[D.fgts,D.fgt,Qb7,Lvs,We]) (by simp[D.pures,D.pure,Cp.free,D.pures_map,Qb7,Lvs,We]) (by simp[Out.pure,D.pure,D.pures,Cp.free,D.pures_map,Qb7,Lvs,We]);(try simp only[zr]);(repeat rw[Qa];simp);((try simp only[zs]);refine Qk.pan (.inl ?_);simp[Out.fgt,D.fgt,D.fgts]);simp[Qpg,h,h2,Xt,We];rfl
  | true =>
   (refine sR fun K hK=>?_;(repeat rw[Qa];simp));refine Wl.pure Qf (Qht n sc t.ls hl hls h2) ?_ (by simp[D.fgts,D.fgt,Qb7,Lvs]) (by simp[D.pures,D.pure,Cp.free,D.pures_map,Qb7,Lvs]) (by simp[Out.pure,D.pure,D.pures,Cp.free,D.pures_map,Qb7,Lvs]);(try simp only[zr]);(repeat rw[Qa];simp);(refine hK _ _ _ ?_;clear hK K);(refine sI fun K Z=>?_;(repeat rw[Qa];simp);refine Z ?_;clear Z K);(refine Qe ?_;(try simp only[zs]);refine Qk.ret rfl (.inl ?_);simp[zM]);simp only[Qpg,h,h2];rfl
theorem Qor(n sc:Int)(cs:List Int)(t:T)(hcs:cs.length<=Ql)(hl:t.ls.length<=Ql)(hls:∀l,l∈t.ls ->l.length<=Ql):Sp 153 [Qcc n sc cs,Qj t] [] (fun o _=>o.fgt=Xt (Qii n cs t) (.int .i64 0)):=by
 refine eN Tryz.func153 rfl (by decide) rfl rfl ?_;unfold Qcc Qeg;(refine sI fun K Z=>?_;(repeat rw[Qa];simp);refine Z ?_;clear Z K);cases h:decide (0<=t.n) && decide (t.n<cs.length) && decide (t.a=0)with
 | false =>
  (refine sR fun K hK=>?_;(repeat rw[Qa];simp));refine Wl.pure Qf (Qda [decide (0<=t.n),decide (t.n<cs.length),decide (t.a=0)] (by simpa [-Bool.and_eq_false_imp,Bool.and_assoc]using h)) ?_ (by simp[D.fgts,D.fgt,Ww,We]) (by simp[D.pures,D.pure,Cp.free,D.pures_map,Ww,We]) (by simp[Out.pure,D.pure,D.pures,Cp.free,D.pures_map,Ww,We]);(try simp only[zr]);(repeat rw[Qa];simp);((try simp only[zs]);refine Qk.pan (.inl ?_);simp[Out.fgt,D.fgt,D.fgts]);simp[Qii,h,Xt,We];rfl
 | true =>
  (refine sR fun K hK=>?_;(repeat rw[Qa];simp));refine Wl.pure Qf (Qc9 [decide (0<=t.n),decide (t.n<cs.length),decide (t.a=0)] (by simpa [and_assoc]using h)) ?_ (by simp[D.fgts,D.fgt,Ww]) (by simp[D.pures,D.pure,Cp.free,D.pures_map,Ww]) (by simp[Out.pure,D.pure,D.pures,Cp.free,D.pures_map,Ww]);(try simp only[zr]);(repeat rw[Qa];simp);(refine hK _ _ _ ?_;clear hK K);have h0:=h;simp only[Bool.and_eq_true,decide_eq_true_eq]at h0;obtain⟨⟨k1,k2⟩,k3⟩:=h0;have k4:t.n.toNat<cs.length:=by omega
  have k5:cs.getD t.n.toNat 0=cs[t.n.toNat]:=by rw[List.getD_eq_getElem?_getD,List.getElem?_eq_getElem k4];rfl
  cases h1:decide ((t.ls.length:Int)=cs[t.n.toNat])with
  | false =>
   (refine Qc fun K hK=>?_;refine dR fun KT hKT=>?_;(repeat rw[Qd];simp[k1,k4]));refine Xp.pure Qf (Qda [decide ((t.ls.length:Int)=cs[t.n.toNat])] (by simp[h1])) ?_ (by simp[D.fgts,D.fgt,Ww,We]) (by simp[D.pures,D.pure,Cp.free,D.pures_map,Ww,We]) (by simp[Out.pure,D.pure,D.pures,Cp.free,D.pures_map,Ww,We]);(try simp only[zq]);(repeat rw[Qd];simp);(refine hKT _ _ _ _ (by kernel_rfl) ?_;clear hKT KT);simp;((try simp only[zs]);refine Qk.pan (.inl ?_);simp[Out.fgt,D.fgt,D.fgts]);simp only[Qii,h,k5,h1];rfl
  | true =>
   (refine Qc fun K hK=>?_;refine dR fun KT hKT=>?_;(repeat rw[Qd];simp[k1,k4]));refine Xp.pure Qf (Qc9 [decide ((t.ls.length:Int)=cs[t.n.toNat])] (by simp[h1])) ?_ (by simp[D.fgts,D.fgt,Ww]) (by simp[D.pures,D.pure,Cp.free,D.pures_map,Ww]) (by simp[Out.pure,D.pure,D.pures,Cp.free,D.pures_map,Ww]);(try simp only[zq]);(repeat rw[Qd];simp);(refine hKT _ _ _ _ (by kernel_rfl) ?_;clear hKT KT);(refine hK _ _ _ ?_;clear hK K);cases h2:t.ls.all fun l=>Xn l n with
   | false =>
    (refine sR fun K hK=>?_;(repeat rw[Qa];simp));refine Wl.pure Qf (Qhu n sc t.ls hl hls h2) ?_ (by simp[D.fgts,D.fgt,Qb7,Lvs,We]) (by simp[D.pures,D.pure,Cp.free,D.pures_map,Qb7,Lvs,We]) (by simp[Out.pure,D.pure,D.pures,Cp.free,D.pures_map,Qb7,Lvs,We]);(try simp only[zr]);(repeat rw[Qa];simp);((try simp only[zs]);refine Qk.pan (.inl ?_);simp[Out.fgt,D.fgt,D.fgts]);simp only[Qii,h,k5,h1,h2];rfl
   | true =>
    (refine sR fun K hK=>?_;(repeat rw[Qa];simp));refine Wl.pure Qf (Qht n sc t.ls hl hls h2) ?_ (by simp[D.fgts,D.fgt,Qb7,Lvs]) (by simp[D.pures,D.pure,Cp.free,D.pures_map,Qb7,Lvs]) (by simp[Out.pure,D.pure,D.pures,Cp.free,D.pures_map,Qb7,Lvs]);(try simp only[zr]);(repeat rw[Qa];simp);(refine hK _ _ _ ?_;clear hK K);(refine sI fun K Z=>?_;(repeat rw[Qa];simp);refine Z ?_;clear Z K);(refine Qe ?_;(try simp only[zs]);refine Qk.ret rfl (.inl ?_);simp[zM]);simp only[Qii,h,k5,h1,h2];rfl
theorem Qwq:Sp 105 [] [] (fun o _=>o.fgt= .ret Qay):=by
 refine eN Tryz.func105 rfl (by decide) rfl rfl ?_;(refine sI fun K Z=>?_;(repeat rw[Qa];simp);refine Z ?_;clear Z K);(refine sI fun K Z=>?_;(repeat rw[Qa];simp);refine Z ?_;clear Z K);refine Qxp 0 (es:=Qfh.map fun p=>(.int .i64 p.1, .fn (.func p.2) [] [])) rfl ?_;simp[D.frzs,D.frz,HO.frz,Qam];(refine Qe ?_;(try simp only[zs]);refine Qk.ret rfl (.inl ?_);simp[zM]);rfl
def Qhe(k:Int):Option FuncId:=(Qfh.find? fun p=>decide (k=p.1)).map (·.2)
theorem Qwk:∀j:Fin 25,(Qhe (j.1:Int)).isSome=Qh9 (j.1:Int):=by decide
theorem look_in(k:Int):(Qhe k).isSome=Qh9 k:=by
 by_cases h:0<=k/\k<25
 ·obtain⟨j,rfl⟩:∃j:Nat,k=j:=⟨k.toNat,by omega⟩;exact Qwk ⟨j,by omega⟩
 ·have h1:Qh9 k=false:=by unfold Qh9;simp;omega
  rw[h1];unfold Qhe;rw[Option.isSome_map,Option.isSome_eq_false_iff,Option.isNone_iff_eq_none,List.find?_eq_none];intro p hp;simp only[Qfh,List.mem_cons,List.not_mem_nil,or_false]at hp;rcases hp with rfl | rfl | rfl | rfl | rfl | rfl | rfl | rfl | rfl | rfl | rfl | rfl | rfl | rfl | rfl | rfl | rfl | rfl | rfl | rfl <;> simp <;> omega
theorem We2(n sc:Int)(cs:List Int)(t:T)(hcs:cs.length<=Ql)(ht:okT t)(f:FuncId)(hf:Qhe t.k=some f) :
  Sp f [Qcc n sc cs,Qj t] [] (fun o _=>o.fgt=Xt (Ql9 n sc cs t) (.int .i64 (Qxk t.k t.a))):=by
 have hl:=ht.ll;have hls:∀l,l∈t.ls ->l.length<=Ql:=fun l h=>(ht.ls l h).1
 have key:(t.k,f)∈Qfh:=by
  unfold Qhe at hf;cases h:Qfh.find? (fun p=>decide (t.k=p.1))with
  | none=>rw[h]at hf;cases hf
  | some p =>
   rw[h]at hf;cases hf;have h1:=List.find?_some h;have h2:=List.mem_of_find?_eq_some h;simp only[decide_eq_true_eq]at h1;rw[h1];exact h2
 simp only[Qfh,List.mem_cons,Prod.mk.injEq,List.not_mem_nil,or_false]at key;rcases key with ⟨h,rfl⟩ | ⟨h,rfl⟩ | ⟨h,rfl⟩ | ⟨h,rfl⟩ | ⟨h,rfl⟩ | ⟨h,rfl⟩ | ⟨h,rfl⟩ | ⟨h,rfl⟩ | ⟨h,rfl⟩ | ⟨h,rfl⟩ | ⟨h,rfl⟩ | ⟨h,rfl⟩ | ⟨h,rfl⟩ | ⟨h,rfl⟩ | ⟨h,rfl⟩ | ⟨h,rfl⟩ | ⟨h,rfl⟩ | ⟨h,rfl⟩ | ⟨h,rfl⟩ | ⟨h,rfl⟩ <;> simp only[Ql9,Qxk,h] <;> simp
 ·exact Qnd n sc cs t
 ·exact Qyb n sc cs t hl hls
 ·exact Qor n sc cs t hcs hl hls
 all_goals first | exact Wcl n sc cs t | exact Qvo n sc cs t | exact Wdk n sc cs t | exact Wal n sc cs t | exact Qzt n sc cs t | exact Wcz n sc cs t | exact Weh n sc cs t | exact Waw n sc cs t | exact Qov n sc cs t
theorem Qu5:Qec.length=Qea.length:=by kernel_rfl
theorem Qu7:((Qec.zip Qea).all fun p=>Qbr IntKind.i64 p.1)=true:=by kernel_rfl
theorem Quu(a:Int):∀l:List (Int×FuncId),Qcg (.int .i64 a) ((l.map fun p=>(.int .i64 p.1:D)).zip (l.map fun p=>(.fn (.func p.2) [] []:D)))=((l.find? fun p=>decide (a=p.1)).map (·.2)).map fun f=> .fn (.func f) [] []
 | []=>rfl
 | p::r=>by
  rw[List.map_cons,List.map_cons,List.zip_cons_cons,Qcg,List.find?_cons];by_cases h:a=p.1
  ·simp[Qd0,h]
  ·simp[Qd0,h];simpa using Quu a r
theorem Qqv(a:Int):Qcg (.int .i64 a) (Qec.zip Qea)=(Qhe a).map fun f=> .fn (.func f) [] []:=Quu a Qfh
def ksC(n:Int)(cs:List Int)(k sc:Int)(ks:List T)(j:Nat):Bool:=Qgy n cs (ks.drop j) k j sc
theorem ksC_at{n:Int}{cs:List Int}{k sc:Int}{ks:List T}{j:Nat}(h:j<ks.length):ksC n cs k sc ks j=(Qb1 n cs ks[j] (Xl sc k j) && ksC n cs k sc ks (j+1)):=by
 unfold ksC;rw[List.drop_eq_getElem_cons h,Qgy]
theorem ksC_end{n:Int}{cs:List Int}{k sc:Int}{ks:List T}:ksC n cs k sc ks ks.length=true:=by
 unfold ksC;rw[List.drop_length,Qgy]
theorem Qw8(n:Int)(cs:List Int)(hcs:cs.length<=Ql)(t:T):∀sc,okT t ->Sp 106 [Qcc n sc cs,Qj t] [] (fun o _=>o.fgt=Xt (Qb1 n cs t sc) (.tuple [])):=by
 induction t using T.ind with
 | h kk m a ls ks ih =>
  intro sc ht;have hkl:ks.length<=Ql:=ht.kl;have hks:=ht.ks;simp only[T.ks_mk]at hks;have ha0:=fun f hf=>We2 n sc cs _ hcs ht f hf
  simp only[T.k_mk,T.a_mk]at ha0;have hC:Qb1 n cs (.mk kk m a ls ks) sc=(Qh9 kk && Ql9 n sc cs (.mk kk m a ls ks) && decide ((ks.length:Int)=Qxk kk a) && ksC n cs kk sc ks 0):=by
   rw[Qb1];rfl
  generalize Qb1 n cs (.mk kk m a ls ks) sc=R at hC⊢;generalize Ql9 n sc cs (.mk kk m a ls ks)=B at hC ha0;generalize Qxk kk a=q at hC ha0;have hin:=look_in kk;generalize Qh9 kk=I at hin hC;rw[Qb]at ha0⊢;simp only[T.k_mk,T.n_mk,T.a_mk,T.ls_mk,T.ks_mk]at ha0⊢;unfold Qcc Qeg at ha0⊢;refine eN Tryz.func106 rfl (by decide) rfl rfl ?_;(refine sI fun K Z=>?_;(repeat rw[Qa];simp);refine Z ?_;clear Z K);cases hf:Qhe kk with
  | none =>
   rw[hf]at hin;have hI:I=false:=hin.symm;subst hI;(refine sI fun K Z=>?_;(repeat rw[Qa];simp[Qay,Qu5,Qu7,Qqv,hf]);refine Z ?_;clear Z K);(refine sR fun K hK=>?_;(repeat rw[Qa];simp));refine Wl.pure Qf (Qda [false] rfl) ?_ (by simp[D.fgts,D.fgt,Ww,We]) (by simp[D.pures,D.pure,Cp.free,D.pures_map,Ww,We]) (by simp[Out.pure,D.pure,D.pures,Cp.free,D.pures_map,Ww,We]);(try simp only[zr]);(repeat rw[Qa];simp);((try simp only[zs]);refine Qk.pan (.inl ?_);simp[Out.fgt,D.fgt,D.fgts]);rw[hC];simp[Xt,We,D.fgt,D.fgts]
  | some f =>
   rw[hf]at hin;have hI:I=true:=hin.symm;subst hI;have ha:=ha0 f hf;clear ha0;(refine sI fun K Z=>?_;(repeat rw[Qa];simp[Qay,Qu5,Qu7,Qqv,hf]);refine Z ?_;clear Z K);(refine sR fun K hK=>?_;(repeat rw[Qa];simp));refine Wl.pure Qf (Qc9 [true] rfl) ?_ (by simp[D.fgts,D.fgt,Ww]) (by simp[D.pures,D.pure,Cp.free,D.pures_map,Ww]) (by simp[Out.pure,D.pure,D.pures,Cp.free,D.pures_map,Ww]);(try simp only[zr]);(repeat rw[Qa];simp);(refine hK _ _ _ ?_;clear hK K);cases B with
   | false =>
    simp only[Xt,if_false,Bool.false_eq_true]at ha;(refine Qc fun K hK=>?_;refine dR fun KT hKT=>?_;(repeat rw[Qd];simp));refine Xp.pure Qf ha ?_ (by simp[D.fgts,D.fgt,Qay]) (by simp[D.pures,D.pure,Cp.free,D.pures_map]) (by simp[Out.pure,D.pure,D.pures,We]);(try simp only[Qt,Qu,Qr,Qw,Wi]);((try simp only[Qt,Qu,Qr,Qw,Wi]);(repeat(refine Wr _ _ _ _ (by kernel_rfl) ?_;simp only[Qr,List.set,List.nil_append,List.cons_append,Nat.reduceAdd]));(try simp only[Qm]));(refine hKT _ _ _ _ (by kernel_rfl) ?_;clear hKT KT);simp;((try simp only[zs]);refine Qk.pan (.inl ?_);simp[Out.fgt,D.fgt,D.fgts]);rw[hC];simp[Xt,We,D.fgt,D.fgts]
   | true =>
    simp only[Xt,if_true]at ha;cases hm:decide ((ks.length:Int)=q)with
    | false =>
     (refine Qc fun K hK=>?_;refine dR fun KT hKT=>?_;(repeat rw[Qd];simp));refine Xp.pure Qf ha ?_ (by simp[D.fgts,D.fgt,Qay]) (by simp[D.pures,D.pure,Cp.free,D.pures_map]) (by simp[Out.pure,D.pure,D.pures]);(try simp only[zq]);(repeat rw[Qd];simp);refine Xp.pure Qf (Qda [decide ((ks.length:Int)=q)] (by simp[hm])) ?_ (by simp[D.fgts,D.fgt,Ww,We]) (by simp[D.pures,D.pure,Cp.free,D.pures_map,Ww,We]) (by simp[Out.pure,D.pure,D.pures,Cp.free,D.pures_map,Ww,We]);((try simp only[Qt,Qu,Qr,Qw,Wi]);(repeat(refine Wr _ _ _ _ (by kernel_rfl) ?_;simp only[Qr,List.set,List.nil_append,List.cons_append,Nat.reduceAdd]));(try simp only[Qm]));(refine hKT _ _ _ _ (by kernel_rfl) ?_;clear hKT KT);simp;((try simp only[zs]);refine Qk.pan (.inl ?_);simp[Out.fgt,D.fgt,D.fgts]);rw[hC,hm];simp[Xt,We,D.fgt,D.fgts]
    | true =>
     rw[hm]at hC;simp only[Bool.true_and]at hC;(refine Qc fun K hK=>?_;refine dR fun KT hKT=>?_;(repeat rw[Qd];simp));refine Xp.pure Qf ha ?_ (by simp[D.fgts,D.fgt,Qay]) (by simp[D.pures,D.pure,Cp.free,D.pures_map]) (by simp[Out.pure,D.pure,D.pures]);(try simp only[zq]);(repeat rw[Qd];simp);refine Xp.pure Qf (Qc9 [decide ((ks.length:Int)=q)] (by simp[hm])) ?_ (by simp[D.fgts,D.fgt,Ww]) (by simp[D.pures,D.pure,Cp.free,D.pures_map,Ww]) (by simp[Out.pure,D.pure,D.pures,Cp.free,D.pures_map,Ww]);(try simp only[zq]);(repeat rw[Qd];simp);(refine hKT _ _ _ _ (by kernel_rfl) ?_;clear hKT KT);(refine hK _ _ _ ?_;clear hK K);clear ha hm;(refine sI fun K Z=>?_;(repeat rw[Qa];simp);refine Z ?_;clear Z K);refine Xm Wa Qf (ti:=3) (tk:=33) (tn:=32) (td:=34) (ts:=50) [6,7,8,33,34,35,36,37,38,39,40,41,42,43,44,45,46,47,48,49,50] [] (ks.length) (fun k ys hl=>ys= []/\R=ksC n cs kk sc ks k/\hl= [.cells 154 [.int .i64 n, .int .i64 sc, .slice (cs.map (.int .i64)) .any,Qay], .cells 27 [.int .i64 kk, .int .i64 m, .int .i64 a, .slice (ls.map Qn) .any, .slice (ks.map Qj) .any]]) rfl rfl rfl rfl rfl rfl rfl rfl rfl rfl rfl rfl (by simp) (by decide) rfl (by first | assumption | omega | (unfold Ql;omega)) rfl (by kernel_rfl) (by decide) ?_ ?_ ?_
     ·exact⟨rfl,hC,rfl⟩
     ·rintro i ys hl A hi ⟨rfl,hF,rfl⟩ hA hA2;simp only[Qh,List.set,List.map_cons,List.map_nil,List.cons_append,List.nil_append];have hi':(i:Int)<ks.length:=by omega
      rw[ksC_at hi]at hF;have hrec:=ih ks[i] (List.getElem_mem hi) (Xl sc kk i) (hks _ (List.getElem_mem hi));have hbi:=Qgu kk i;have hbl:=Qrx n sc 1;have hbd:Xl sc kk i=if Qba kk i then IntKind.i64.wrap (sc+1)else sc:=rfl
      unfold Qcc Qeg at hrec;unfold Qb7 at hbl;obtain⟨x,hx⟩:∃x,ks[i]=x:=⟨_,rfl⟩;have hEx:=Qb x;rw[hx]at hrec hF;rw[hEx]at hrec;generalize Qb1 n cs x (Xl sc kk i)=Bx at hrec hF;generalize Xl sc kk i=sc' at hrec hbd;generalize Qba kk i=bb at hbi hbd;(refine sI fun K Z=>?_;(repeat rw[Qa];simp[hi,hi',hx,hEx]);refine Z ?_;clear Z K);(refine sI fun K Z=>?_;(repeat rw[Qa];simp);refine Z ?_;clear Z K);refine Qc fun K2 hK2=>?_
      cases bb with
      | true =>
       rw[if_pos rfl]at hbd;subst hbd;(refine sR fun K hK=>?_;(repeat rw[Qa];simp));refine cXr (hbi) ?_
       (repeat rw[Qa];simp)
       (refine hK _ _ _ ?_;clear hK K);refine pT rfl ?_;(refine Qi Wa ?_;(repeat rw[Qa];simp));refine cXr (hbl) ?_
       (repeat rw[Qa];simp)
       refine hK2 _ _ _ ?_;cases Bx with
       | true =>
        simp only[Xt,if_true]at hrec;(refine Qi Wa ?_;(repeat rw[Qa];simp));refine cXr (hrec) ?_
        (repeat rw[Qa];simp)
        (refine hA2 ([0,1]) _ _ _ (LeT.refl _) (by decide) (by simp) (by simp[zM,Qh]) ?_ rfl;simp[zM]);simpa using hF
       | false =>
        simp only[Xt,if_false,Bool.false_eq_true]at hrec;(refine Qi Wa ?_;(repeat rw[Qa];simp));refine Wl.pure Qf (hrec) ?_ (by simp[D.fgts,D.fgt,We]) (by simp[D.pures,D.pure,Cp.free,D.pures_map,We]) (by simp[Out.pure,D.pure,D.pures,Cp.free,D.pures_map,We]);(try simp only[zr]);(repeat rw[Qa];simp);((try simp only[zs]);refine Qk.pan (.inl ?_);simp[Out.fgt,D.fgt,D.fgts]);rw[hF];simp[Xt,We,D.fgt,D.fgts]
      | false =>
       rw[if_neg Bool.false_ne_true]at hbd;subst hbd;(refine sR fun K hK=>?_;(repeat rw[Qa];simp));refine cXr (hbi) ?_
       (repeat rw[Qa];simp)
       (refine hK _ _ _ ?_;clear hK K);refine pF rfl ?_;refine Qg (hK2 _ _ _ ?_);cases Bx with
       | true =>
        simp only[Xt,if_true]at hrec;(refine Qi Wa ?_;(repeat rw[Qa];simp));refine cXr (hrec) ?_
        (repeat rw[Qa];simp)
        (refine hA2 ([0,1]) _ _ _ (LeT.refl _) (by decide) (by simp) (by simp[zM,Qh]) ?_ rfl;simp[zM]);simpa using hF
       | false =>
        simp only[Xt,if_false,Bool.false_eq_true]at hrec;(refine Qi Wa ?_;(repeat rw[Qa];simp));refine Wl.pure Qf (hrec) ?_ (by simp[D.fgts,D.fgt,We]) (by simp[D.pures,D.pure,Cp.free,D.pures_map,We]) (by simp[Out.pure,D.pure,D.pures,Cp.free,D.pures_map,We]);(try simp only[zr]);(repeat rw[Qa];simp);((try simp only[zs]);refine Qk.pan (.inl ?_);simp[Out.fgt,D.fgt,D.fgts]);rw[hF];simp[Xt,We,D.fgt,D.fgts]
     ·rintro ys hl tl' ⟨rfl,hF,rfl⟩ htl;rw[ksC_end]at hF;subst hF;((try simp only[zs]);refine Qk.nrm rfl (.inl ?_);simp[zM]);simp[Xt]
theorem Qs5(b:Bool):Qgw Tryz.prog glob 103 [.box 0 0] [.cells 4 [.bool b]] none (fun hc=>hc= [.cells 4 [.bool b]]):=by
 refine Qav Wa Tryz.func103 rfl rfl (fun a w=>rfl) rfl (Qcm _ _ Tryz.func103 rfl (by decide)) rfl rfl ?_;(try simp only[zr]);(repeat rw[Qa];simp);(refine sI fun K Z=>?_;(repeat rw[Qa];simp);refine Z ?_;clear Z K);refine pF rfl ?_;refine Qg ?_;refine Qk.nrm rfl ?_;simp[Qw]
theorem Qjm(b:Bool):Qgw Tryz.prog glob 103 [.box 0 0] [.cells 4 [.bool b]] (some We) (fun hc=>hc= [.cells 4 [.bool false], .cells 146 []]):=by
 refine Qav Wa Tryz.func103 rfl rfl (fun a w=>rfl) rfl (Qcm _ _ Tryz.func103 rfl (by decide)) rfl rfl ?_;unfold We;(try simp only[zr]);(repeat rw[Qa];simp);(refine sI fun K Z=>?_;(repeat rw[Qa];simp);refine Z ?_;clear Z K);refine pT rfl ?_;refine Qc fun K1 hK1=>?_
 (refine sI fun K Z=>?_;(repeat rw[Qa];simp);refine Z ?_;clear Z K);(refine sI fun K Z=>?_;(repeat rw[Qa];simp);refine Z ?_;clear Z K);refine pF rfl ?_;refine Qg (hK1 _ _ _ ?_);(refine Qi Wa ?_;(repeat rw[Qa];simp));refine Qk.nrm rfl ?_;simp
theorem Qcw(n sc:Int)(cs:List Int)(t:T)(hcs:cs.length<=Ql)(ht:okT t):Sp 52 [.int .i64 n, .int .i64 sc,Qeg cs,Qj t] [] (rt (.bool (Xq n sc cs t))):=by
 have hw:=Qw8 n cs hcs t sc ht;have hR:Xq n sc cs t=(decide (0<=n) && decide (0<=sc) && Qb1 n cs t sc):=rfl;generalize Xq n sc cs t=R at hR⊢;generalize Qb1 n cs t sc=B at hR hw;unfold Qcc at hw;rw[Qb t]at hw⊢;unfold Qeg at hw⊢;have hk:=Qwq;refine eD Tryz.func52 rfl (by decide) rfl rfl ?_;(refine sI fun K Z=>?_;(repeat rw[Qa];simp);refine Z ?_;clear Z K);(refine sI fun K Z=>?_;(repeat rw[Qa];simp);refine Z ?_;clear Z K);cases hm:decide (0<=n) && decide (0<=sc)with
 | false =>
  rw[hm,Bool.false_and]at hR;subst hR;(refine sR fun K hK=>?_;(repeat rw[Qa];simp));refine Wl.pure Qf (Qda [decide (0<=n),decide (0<=sc)] (by simpa [-Bool.and_eq_false_imp]using hm)) ?_ (by simp[D.fgts,D.fgt,Ww,We]) (by simp[D.pures,D.pure,Cp.free,D.pures_map,Ww,We]) (by simp[Out.pure,D.pure,D.pures,Cp.free,D.pures_map,Ww,We]);(try simp only[zr]);(repeat rw[Qa];simp);(try simp only[zs]);refine Qfn.objs Qf [1] (Qjm false) ?_ ?_ (fun d h=>by cases h;rfl) (by decide) (by simp) (by simp[zA]) (by simp[zA]) (by simp[zA]) (by simp[zA,We])
  ·rintro hc rfl;simp[zA,upO,Qw,Wi];refine Qez.intro rfl (.inr ⟨[],by decide,by simp,?_⟩);simp[zM,Out.fgt,D.fgt]
  ·rintro hc rfl;simp
 | true =>
  rw[hm,Bool.true_and]at hR;subst hR;(refine sR fun K hK=>?_;(repeat rw[Qa];simp));refine Wl.pure Qf (Qc9 [decide (0<=n),decide (0<=sc)] (by simpa using hm)) ?_ (by simp[D.fgts,D.fgt,Ww]) (by simp[D.pures,D.pure,Cp.free,D.pures_map,Ww]) (by simp[Out.pure,D.pure,D.pures,Cp.free,D.pures_map,Ww]);(try simp only[zr]);(repeat rw[Qa];simp);(refine hK _ _ _ ?_;clear hK K);cases R with
  | true =>
   simp only[Xt,if_true]at hw;(refine Qc fun K hK=>?_;refine dR fun KT hKT=>?_;(repeat rw[Qd];simp));refine cYp (hk) ?_;(try simp only[zq]);(repeat rw[Qd];simp);refine cYp (hw) ?_;(try simp only[zq]);(repeat rw[Qd];simp);(refine hKT _ _ _ _ (by kernel_rfl) ?_;clear hKT KT);(refine hK _ _ _ ?_;clear hK K);(refine sI fun K Z=>?_;(repeat rw[Qa];simp);refine Z ?_;clear Z K);refine Qe ?_;refine Qfn.objs Qf [1] (Qs5 true) ?_ ?_ (fun d h=>by cases h) (by decide) (by simp) (by simp[zA]) (by simp[zA]) (by simp[zA]) (by simp[zA])
   ·rintro hc rfl;simp[zA,upO,Qw,Wi];refine Qez.intro rfl (.inr ⟨[],by decide,by simp,?_⟩);simp[zM,Out.fgt,D.fgt]
   ·rintro hc rfl;simp
  | false =>
   simp only[Xt,if_false,Bool.false_eq_true]at hw;(refine Qc fun K hK=>?_;refine dR fun KT hKT=>?_;(repeat rw[Qd];simp));refine cYp (hk) ?_;(try simp only[zq]);(repeat rw[Qd];simp);refine Xp.pure Qf (hw) ?_ (by simp[D.fgts,D.fgt,We]) (by simp[D.pures,D.pure,Cp.free,D.pures_map,We]) (by simp[Out.pure,D.pure,D.pures,Cp.free,D.pures_map,We]);((try simp only[Qt,Qu,Qr,Qw,Wi]);(repeat(refine Wr _ _ _ _ (by kernel_rfl) ?_;simp only[Qr,List.set,List.nil_append,List.cons_append,Nat.reduceAdd]));(try simp only[Qm]));(refine hKT _ _ _ _ (by kernel_rfl) ?_;clear hKT KT);simp;refine Qfn.objs Qf [1] (Qjm false) ?_ ?_ (fun d h=>by cases h;rfl) (by decide) (by simp[Xi]) (by simp[zA,Xi]) (by simp[zA,Xi]) (by simp[zA]) (by simp[zA,We])
   ·rintro hc rfl;simp[zA,upO,Qw,Wi,Xi,Qky];refine Qez.intro rfl (.inr ⟨[],by decide,by simp,?_⟩);simp[zM,Out.fgt,D.fgt]
   ·rintro hc rfl;simp
end Go.Proofs.YtgloldepdhgfaaaGreatDoor
