/- makeSlice: as a list of zeros, or as an object; an object that nobody writes any more as a list. -/
import Derived.Test.YtgicljncknbgcaaGreatL2
import Derived.Laws.MakeOwn
import Derived.Test.YtgicljncknbgcaaGreatL3
import Derived.KernelRfl
set_option linter.unusedVariables false
set_option linter.unusedSimpArgs false
set_option linter.unusedSectionVars false
namespace Go.Proofs.YtgicljncknbgcaaGreat.Abs
open Go Go.ChangeShapes Go.WideShapes Go.ChangeAt Go.RowKit
def v12 (z:Value)(n:Nat):List AV:=(madeCells z.cells n).toList.map vg4
def q7r (P:Program)(t:TypeId)(n:Nat):Option (TypeId×List AV) :=
 match wr5 P t with
 |some (e,size)=>match P.info? e with
  |some i=>match i.zero with
   |some z=>if i.bytes*n≤281474976710656∧n≤9223372036854775807 then some (e,v12 z (n*size)) else none
   |none=>none
  |none=>none
 |none=>none
theorem ka0 {P:Program}{t e:TypeId}{n:Nat}{cs:List AV}(h:q7r P t n=some (e,cs))(k k':IntKind)(w:World):
  ∃ vs:Array Value,cs=vs.toList.map vg4∧(Instr.makeSlice t (.int k n) (.int k' n)).run P w=.ok (.slice (some ⟨w.heap.size,0,none⟩) n n) (w.alloc (.cells vs e)):=by
 unfold q7r at h
 split at h
 case h_2=>cases h
 rename_i e' size he
 obtain⟨h2,i,h3,h4,h5⟩:=qz5 he
 rw[h3] at h
 dsimp only at h
 split at h
 case h_2=>cases h
 rename_i z hz
 split at h
 case isFalse=>cases h
 rename_i hc
 simp only[Option.some.injEq,Prod.mk.injEq] at h
 obtain⟨rfl,rfl⟩:=h
 have hb':(i.bytes:Int)*(n:Int)≤281474976710656:=by
  have h:((i.bytes*n:Nat):Int)≤281474976710656:=by omega
  rwa[Int.natCast_mul] at h
 have hr:=run_make (P:=P) w t e' i z h2 h3 hz k k' n n (by omega) (Int.le_refl _) hb' (by omega)
 refine⟨madeCells z.cells (n*size),rfl,?_⟩
 rw[hr,h4]
 simp
section
variable {P:Program} {o:Oper} {fr:List AV} {s:List Ob}
theorem uq7 {t e:TypeId}{x y:Operand}{k k':IntKind}{n:Nat}{cs:List AV}(ho:o.op=.makeSlice t x y)(hx:q42 fr x=.int k n)(hy:q42 fr y=.int k' n)(h:q7r P t n=some (e,cs)):
  uq2 P o fr s (.list cs n .full):=fun M G w a hS hf=>by
 have hv:=(hf.eval x).1
 have hu:=(hf.eval y).1
 rw[hx] at hv
 rw[hy] at hu
 simp only[VR0] at hv hu
 obtain⟨vs,rfl,h2⟩:=ka0 h k k' w
 refine⟨.slice (some ⟨w.heap.size,0,none⟩) n n,.cells vs e,?_,v37 hS (by simp) fun j b v hb hv'=>xl7 G w vs.toList j b v hb hv'⟩
 simp only[execOp,ho,hv,hu,Sem.run_bind,h2,Result.andThen_ok]
 rfl
theorem k97 {t e:TypeId}{x y:Operand}{k k':IntKind}{n:Nat}{cs:List AV}(ho:o.op=.makeSlice t x y)(hx:q42 fr x=.int k n)(hy:q42 fr y=.int k' n)(h:q7r P t n=some (e,cs)):
  xl8 P o fr s fr (.arr s.length n) (s++[⟨cs,e,true⟩]):=by
 intro M G w a hF hS hf K Q hK
 have hv:=(hf.eval x).1
 have hu:=(hf.eval y).1
 rw[hx] at hv
 rw[hy] at hu
 simp only[VR0] at hv hu
 obtain⟨vs,rfl,h2⟩:=ka0 h k k' w
 have hex:(execOp a.eval o).run P w=.ok (.value (.slice (some ⟨w.heap.size,0,none⟩) n n)) (w.alloc (.cells vs e)):=by
  simp only[execOp,ho,hv,hu,Sem.run_bind,h2,Result.andThen_ok]
  rfl
 obtain⟨hE,hS'⟩:=hS.addObj (cs:=vs.toList.map vg4) (vs:=vs.toList) (t:=e) (by simp) (fun j b v hb hv'=>⟨xl7 G w vs.toList j b v hb hv',qe9.of_plain (by
  rw[List.getElem?_map] at hb
  cases hq:vs.toList[j]? with
  |none=>rw[hq] at hb;cases hb
  |some u=>rw[hq] at hb;simp at hb;subst hb;exact j49 u)⟩)
 have ea:vs.toList.toArray=vs:=by simp
 rw[ea] at hE hS'
 unfold Oper.wp
 rw[hex,Oper.upon_value]
 refine hK _ _ _ (hE.mono fun _ _=>False.elim) hS' (hf.grow hE) ⟨?_,qe9.of_plain rfl⟩
 simp only[VR0]
 refine⟨⟨n,?_,Nat.le_refl _⟩,?_⟩
 ·simp[Gh.addObj,hS.n]
 ·simp[Gh.addObj,hS.n]
end
def Gh.kill (G:Gh)(i:Nat):Gh:={ G with live:=fun j=>if j=i then false else G.live j }
theorem Ext.kill (G:Gh)(i:Nat)(w:World):Ext (fun _=>False) G w (G.kill i) w where
 size:=Nat.le_refl _
 os:=rfl
 tape:=rfl
 output:=rfl
 n:=Nat.le_refl _
 live j hj h:=by
  simp only[Gh.kill] at h
  split at h
  ·cases h
  ·exact h
 mu _ _:=rfl
 newobj j h1 h2:=by simp only[Gh.kill] at h2;omega
 own _ _:=rfl
 phi _ _ _:=Nat.le_refl _
 cell _ _ _ _:=rfl
 row _ _ _ _ _ _:=rfl
 keep _ _ _ _ _:=⟨rfl,rfl,rfl⟩
theorem Sim.kill {M:Nat→Prop}{G:Gh}{s:List Ob}{w:World}(h:Sim M G s w){i:Nat}{ob:Ob}(hi:s[i]?=some ob):Sim M (G.kill i) (s.set i { ob with live:=false }) w:=by
 have hE:=Ext.kill G i w
 refine⟨by simp[Gh.kill,h.n],?_,?_,?_,fun {j} hj h1=>h.lt hj (hE.live j hj h1),?_⟩
 ·intro j k hj hk h1 h2
  exact h.inj j k hj hk (hE.live j hj h1) (hE.live k hk h2)
 ·intro j hj h1
  exact h.own j hj (hE.live j hj h1)
 ·intro j o' hj hol
  rw[List.getElem?_set] at hj
  split at hj
  ·rename_i hij
   split at hj
   ·simp at hj;subst hj;cases hol
   ·cases hj
  ·rename_i hij
   simp only[Gh.kill]
   rw[if_neg (fun e=>hij e.symm)]
   exact h.live j o' hj hol
 ·intro j o' hj hlv
  rw[List.getElem?_set] at hj
  split at hj
  ·split at hj
   ·simp at hj;subst hj;cases hlv
   ·cases hj
  ·obtain⟨us,g1,g2,g3⟩:=h.at_ j o' hj hlv
   exact⟨us,g1,g2,fun k' a' v' hk hv'=>(g3 k' a' v' hk hv').grow hE⟩
theorem Rel.freeze {M:Nat→Prop}{G0:Gh}{w0:World}{fr:List AV}{s:List Ob}{a:Act}{w:World}(t i n:Nat){ob:Ob}(hi:s[i]?=some ob)(hl:ob.live=true)(ht:fr.getD t .undef=.arr i n)
  (h:Rel M G0 w0 fr s a w):Rel M G0 w0 (fr.set t (.list (ob.cs.map AV.plain) n .unk)) (s.set i { ob with live:=false }) a w:=by
 obtain⟨G,h1,h2,h3⟩:=h
 have hE:=Ext.kill G i w
 have hin:i<G.n:=by rw[h2.n];exact q75 hi
 refine⟨G.kill i,h1.trans (hE.mono fun _ _=>False.elim) (fun b _ hb=>hb),h2.kill hi,?_⟩
 have h4:=h3.grow hE
 refine⟨h4.defers,by simpa using h4.size,fun t'=>?_⟩
 rw[List.getD_eq_getElem?_getD,List.getElem?_set]
 split
 ·rename_i htt
  subst htt
  split
  ·have hv:=(h3.at_ t).1
   rw[ht] at hv
   simp only[VR0] at hv
   obtain⟨⟨cap,e1,e2⟩,e3⟩:=hv
   refine⟨?_,qe9.of_plain rfl⟩
   simp only[Option.getD_some,VR0]
   obtain⟨vs,g1,g2,g3⟩:=h2.at_ i ob hi hl
   refine⟨_,cap,e1,e2,(fun h=>by cases h),.inr ⟨G.mu i,0,vs,rfl,⟨?_,?_,?_⟩,?_,?_⟩⟩
   ·rcases Nat.lt_or_ge (G.mu i) w.heap.size with h5|h5
    ·exact h5
    ·rw[Array.getElem?_eq_none h5] at g1;cases g1
   ·rintro⟨j,hj,hlj,hmj⟩
    have hlj':=hE.live j hj hlj
    have:j=i:=h2.inj j i hj hin hlj' (h2.live i ob hi hl) hmj
    subst this
    simp[Gh.kill] at hlj
   ·intro ho
    have:=h2.own i hin (h2.live i ob hi hl)
    simp only[Gh.kill] at ho
    rw[this] at ho
    cases ho
   ·intro j v hj
    rw[Nat.zero_add,w63 g1]
    exact hj
   ·refine q61.mk (by simp[g2]) fun j b v hb hv'=>?_
    rw[List.getElem?_map] at hb
    cases hq:ob.cs[j]? with
    |none=>rw[hq] at hb;cases hb
    |some c =>
     rw[hq] at hb
     simp at hb
     subst hb
     exact(VR0.mono hE c v (g3 j c v hq hv').1).plain
  ·rename_i hlt
   refine⟨by simp only[Option.getD_none,VR0],qe9.of_plain rfl⟩
 ·have:=h4.at_ t'
  rwa[List.getD_eq_getElem?_getD] at this
mutual
theorem VR0.refs {G:Gh}{w:World}:∀ (a:AV) (v:Value),VR0 G w a v→a.refs G.n=true
 |.undef,_,_=>rfl
 |.int ..,_,_=>rfl
 |.bool _,_,_=>rfl
 |.str _,_,_=>rfl
 |.nilp,_,_=>rfl
 |.nilf,_,_=>rfl
 |.ref i o,_,h=>by simp only[VR0] at h;simp[AV.refs,h.2]
 |.arr i o,_,h=>by simp only[VR0] at h;simp[AV.refs,h.2]
 |.eptr cs o,_,h=>by
  simp only[VR0] at h
  obtain⟨b,ob,vs,h1,h2,h3,h4⟩:=h
  simp only[AV.refs]
  exact q61.refs cs vs h4
 |.list cs n g,_,h=>by
  simp only[VR0] at h
  obtain⟨A,cap,h1,h2,h3,h4⟩:=h
  simp only[AV.refs]
  rcases h4 with rfl|⟨b,o,vs,h5,h6,h7,h8⟩
  ·rfl
  ·exact q61.refs cs vs h8
 |.func fn cs,_,h=>by
  simp only[VR0] at h
  obtain⟨vs,h1,h2⟩:=h
  simp only[AV.refs]
  exact q61.refs cs vs h2
 |.agg cs,_,h=>by
  simp only[VR0] at h
  obtain⟨vs,h1,h2⟩:=h
  simp only[AV.refs]
  exact q61.refs cs vs h2
 |.tuple cs,_,h=>by
  simp only[VR0] at h
  obtain⟨vs,h1,h2⟩:=h
  simp only[AV.refs]
  exact q61.refs cs vs h2
theorem q61.refs {G:Gh}{w:World}:∀ (cs:List AV) (vs:List Value),q61 G w cs vs→qf0 G.n cs=true
 |[],_,_=>rfl
 |a::as,_,h=>by
  simp only[q61] at h
  obtain⟨v,vs',h1,h2,h3⟩:=h
  simp only[qf0,Bool.and_eq_true]
  exact⟨VR0.refs a v h2,q61.refs as vs' h3⟩
end
theorem Sim.refs {M:Nat→Prop}{G:Gh}{s:List Ob}{w:World}(h:Sim M G s w){i:Nat}{o:Ob}(hi:s[i]?=some o)(hl:o.live=true):qf0 s.length o.cs=true:=by
 obtain⟨vs,h1,h2,h3⟩:=h.at_ i o hi hl
 rw[← h.n]
 exact q61.refs o.cs vs (q61.mk h2 fun k a v ha hv=>(h3 k a v ha hv).1)
mutual
def AV.free :AV→Bool
 |.ref _ _=>false
 |.arr _ _=>false
 |.eptr cs _=>!cs.isEmpty&&qp7 cs
 |.list cs _ _=>qp7 cs
 |.func _ cs=>qp7 cs
 |.agg cs=>qp7 cs
 |.tuple cs=>qp7 cs
 |.undef|.int ..|.bool _|.str _|.nilp|.nilf=>true
def qp7 :List AV→Bool
 |[]=>true
 |a::as=>a.free&&qp7 as
end
mutual
theorem VR0.move {G G':Gh}{w:World}(hs:∀ b o len,0<len→jf3 G w b o len→jf3 G' w b o len):∀ (a:AV) (v:Value),a.free=true→VR0 G w a v→VR0 G' w a v
 |.undef,_,_,_=>by simp only[VR0]
 |.int ..,_,_,hv=>by simp only[VR0] at hv ⊢;exact hv
 |.bool ..,_,_,hv=>by simp only[VR0] at hv ⊢;exact hv
 |.str ..,_,_,hv=>by simp only[VR0] at hv ⊢;exact hv
 |.nilp,_,_,hv=>by simp only[VR0] at hv ⊢;exact hv
 |.nilf,_,_,hv=>by simp only[VR0] at hv ⊢;exact hv
 |.ref i o,_,hb,_=>by simp[AV.free] at hb
 |.arr i o,_,hb,_=>by simp[AV.free] at hb
 |.eptr cs o,_,hb,hv=>by
  simp only[VR0,AV.free,Bool.and_eq_true,Bool.not_eq_true',List.isEmpty_eq_false_iff] at hv hb ⊢
  obtain⟨b,ob,vs,h1,h2,h3,h4⟩:=hv
  exact⟨b,ob,vs,h1,hs _ _ _ (List.length_pos_iff.2 hb.1) h2,h3,q61.move hs cs vs hb.2 h4⟩
 |.list cs n g,_,hb,hv=>by
  simp only[VR0,AV.free] at hv hb ⊢
  obtain⟨A,cap,h1,h2,h3,h4⟩:=hv
  refine⟨A,cap,h1,h2,h3,?_⟩
  rcases h4 with h4|⟨b,o,vs,h5,h6,h7,h8⟩
  ·exact .inl h4
  ·by_cases hc:cs=[]
   ·exact .inl hc
   ·exact .inr ⟨b,o,vs,h5,hs _ _ _ (List.length_pos_iff.2 hc) h6,h7,q61.move hs cs vs hb h8⟩
 |.func fn cs,_,hb,hv=>by
  simp only[VR0,AV.free] at hv hb ⊢
  obtain⟨vs,h1,h2⟩:=hv
  exact⟨vs,h1,q61.move hs cs vs hb h2⟩
 |.agg cs,_,hb,hv=>by
  simp only[VR0,AV.free] at hv hb ⊢
  obtain⟨vs,h1,h2⟩:=hv
  exact⟨vs,h1,q61.move hs cs vs hb h2⟩
 |.tuple cs,_,hb,hv=>by
  simp only[VR0,AV.free] at hv hb ⊢
  obtain⟨vs,h1,h2⟩:=hv
  exact⟨vs,h1,q61.move hs cs vs hb h2⟩
theorem q61.move {G G':Gh}{w:World}(hs:∀ b o len,0<len→jf3 G w b o len→jf3 G' w b o len):∀ (as:List AV) (vs:List Value),qp7 as=true→q61 G w as vs→q61 G' w as vs
 |[],_,_,hv=>by simp only[q61] at hv ⊢;exact hv
 |a::as,_,hb,hv=>by
  simp only[q61,qp7,Bool.and_eq_true] at hv hb ⊢
  obtain⟨v,vs',h1,h2,h3⟩:=hv
  exact⟨v,vs',h1,VR0.move hs a v hb.1 h2,q61.move hs as vs' hb.2 h3⟩
end
open Classical in
noncomputable def Gh.hide (G:Gh):Gh where
 n:=0
 live _:=false
 mu:=G.mu
 own b:=if G.obj b then true else G.own b
 phi b:=if G.obj b then 0 else G.phi b
 tg:=G.tg
theorem z71 (G:Gh)(b:Nat):¬ G.hide.obj b:=fun⟨i,hi,_⟩=>by simp only[Gh.hide] at hi;omega
def Gh.back (G G1:Gh)(size:Nat):Gh where
 n:=G.n
 live:=G.live
 mu:=G.mu
 own b:=if b<size then G.own b else G1.own b
 phi b:=if b<size then G.phi b else G1.phi b
 tg b:=if b<size then G.tg b else G1.tg b
theorem GI.hide {P:Program}{G:Gh}{w:World}(h:GI P G w):GI P G.hide w:=fun hg=>by
 obtain⟨h1,h2,h3,h4⟩:=h hg
 exact⟨h1,h2,z71 G 0,by simp only[Gh.hide];rw[if_neg h3];exact h4⟩
theorem OkP_at {P:Program}{f:FuncId}{args:List AV}{r:AV}(h:Ok P f args [] r [])(ha:qp7 args=true)(hr:r.free=true){M:Nat→Prop}{G:Gh}{s:List Ob}{w:World}{cargs:List Value}(hS:Sim M G s w)(hG:GI P G w)(hargs:q61 G w args cargs):
  Calls P f cargs.toArray w fun e w'=>∃ v G',e=.returned v∧VR0 G' w' r v∧Sim M G' s w'∧Ext (fun _=>False) G w G' w':=by
 have hobj:∀ b,G.obj b→b<w.heap.size∧G.own b=false:=by
  rintro b ⟨i,h1,h2,rfl⟩
  exact⟨hS.lt h1 h2,hS.own i h1 h2⟩
 have h0:=h (fun _=>False) G.hide w cargs ⟨rfl,fun i j hi=>by simp only[Gh.hide] at hi;omega,fun i hi=>by simp only[Gh.hide] at hi;omega,fun i o hi=>by simp at hi,fun {i} hi=>by simp only[Gh.hide] at hi;omega,fun i o hi=>by simp at hi⟩ hG.hide
  (q61.move (fun b o len hl ⟨k1,k2,k3⟩=>⟨k1,z71 G b,fun ho=>by
   simp only[Gh.hide] at ho ⊢
   rw[if_neg k2] at ho ⊢
   exact k3 ho⟩) args cargs ha hargs)
 refine h0.mono ?_
 rintro e w' ⟨v,G1,rfl,h1,h2,h3⟩
 have hM:∀ b,b<w.heap.size→¬ va5 (fun _=>False) G.hide [] w b:=fun b hb hm=>by
  rcases hm with hm|⟨hm,_⟩
  ·omega
  ·exact hm
 have own1:∀ b,b<w.heap.size→G.own b=true→¬ G.obj b→G.hide.own b=true∧G.hide.phi b=G.phi b:=fun b hb ho hn=>by
  simp only[Gh.hide];rw[if_neg hn,if_neg hn];exact⟨ho,rfl⟩
 have hE:Ext (fun _=>False) G w (G.back G1 w.heap.size) w':={
  size:=h3.size
  os:=h3.os
  tape:=h3.tape
  output:=h3.output
  n:=Nat.le_refl _
  live:=fun _ _ h=>h
  mu:=fun _ _=>rfl
  newobj:=fun i k1 k2=>by simp only[Gh.back] at k2;omega
  own:=fun b hb=>by simp only[Gh.back];rw[if_pos hb]
  phi:=fun b hb _=>by simp only[Gh.back];rw[if_pos hb];exact Nat.le_refl _
  cell:=fun b hb hn ho=>h3.cell b hb (z71 G b) (by simp only[Gh.hide];rw[if_neg hn];exact ho)
  row:=fun b hb hn ho o hlt=>h3.row b hb (z71 G b) (own1 b hb ho hn).1 o (by rw[(own1 b hb ho hn).2];exact hlt)
  keep:=fun b hb hn ho _=>⟨(h3.keep b hb (z71 G b) (own1 b hb ho hn).1 (hM b hb)).1,by simp only[Gh.back];rw[if_pos hb],by simp only[Gh.back];rw[if_pos hb]⟩ }
 refine⟨v,G.back G1 w.heap.size,rfl,?_,?_,hE⟩
 ·refine VR0.move ?_ r v hr h1
  rintro b o len hl ⟨k1,k2,k3⟩
  have hno:¬ G.obj b:=fun hb=>by
   obtain⟨hlt,_⟩:=hobj b hb
   have ho1:G.hide.own b=true:=by simp only[Gh.hide];rw[if_pos hb]
   have e1:=(h3.own b hlt).trans ho1
   have e2:=(h3.keep b hlt (z71 G b) ho1 (hM b hlt)).2.1
   have e3:G.hide.phi b=0:=by simp only[Gh.hide];rw[if_pos hb]
   have:=k3 e1
   omega
  refine⟨k1,fun⟨i,q1,q2,q3⟩=>hno ⟨i,q1,q2,q3⟩,fun ho=>?_⟩
  simp only[Gh.back] at ho ⊢
  by_cases hlt:b<w.heap.size
  ·rw[if_pos hlt] at ho ⊢
   obtain⟨q1,q2⟩:=own1 b hlt ho hno
   have e1:=(h3.own b hlt).trans q1
   have e2:=(h3.keep b hlt (z71 G b) q1 (hM b hlt)).2.1
   have:=k3 e1
   omega
  ·rw[if_neg hlt] at ho ⊢
   exact k3 ho
 ·refine⟨hS.n,hS.inj,?_,hS.live,fun {i} hi hl=>Nat.lt_of_lt_of_le (hS.lt hi hl) hE.size,?_⟩
  ·intro i hi hl
   simp only[Gh.back] at hi hl ⊢
   rw[if_pos (hS.lt hi hl)]
   exact hS.own i hi hl
  ·intro i o hi hl
   obtain⟨vs,g1,g2,g3⟩:=hS.at_ i o hi hl
   have hin:i<G.n:=by rw[hS.n];exact q75 hi
   have hlv:G.live i=true:=hS.live i o hi hl
   have hob:G.obj (G.mu i):=⟨i,hin,hlv,rfl⟩
   have ho1:G.hide.own (G.mu i)=true:=by simp only[Gh.hide];rw[if_pos hob]
   refine⟨vs,?_,g2,fun k a u hk hu=>(g3 k a u hk hu).grow hE⟩
   show w'.heap[G.mu i]?=_
   rw[(h3.keep _ (hS.lt hin hlv) (z71 G _) ho1 (hM _ (hS.lt hin hlv))).1,g1]
theorem q4a {P:Program}{o:Oper}{fr:List AV}{s:List Ob}{r:AV}{c:Call}{x:Operand}{f:FuncId}{fcs:List AV}{M:Nat→Prop}{G:Gh}{w:World}{a:Act}(ho:o.op=.call c)(hc:c.callee=.value x)(hx:q42 fr x=.func (.func f) fcs)
  (hbody:z06 P f=true) (hok:Ok P f ((c.args.toList.map fun y=>(q42 fr y).soft)++fcs) [] r []) (ha:qp7 ((c.args.toList.map fun y=>(q42 fr y).soft)++fcs)=true) (hr:r.free=true)
  (hS:Sim M G s w) (hG:GI P G w) (hf:FR M G w fr a) (K:Act→World→Prop) (Q:Exit→Act→World→Prop)
  (hK:∀ v G' w',VR0 G' w' r v→Sim M G' s w'→Ext (fun _=>False) G w G' w'→K (a.put o.dst v) w'):o.wp P a w K Q:=by
 have hv:=(hf.eval x).1
 rw[hx] at hv
 simp only[VR0] at hv
 obtain⟨cvs,hv,hcv⟩:=hv
 have hargs:∀ l:List Operand,q61 G w (l.map fun y=>(q42 fr y).soft) (l.map a.eval):=by
  intro l
  induction l with
  |nil=>simp only[List.map_nil,q61]
  |cons y l ih =>
   simp only[List.map_cons,q61]
   exact⟨_,_,rfl,(hf.eval y).1.soft,ih⟩
 have happ:∀ (l m:List AV) (x y:List Value),q61 G w l x→q61 G w m y→q61 G w (l++m) (x++y):=by
  intro l
  induction l with
  |nil=>intro m x y h1 h2;simp only[q61] at h1;subst h1;exact h2
  |cons a l ih =>
   intro m x y h1 h2
   simp only[q61] at h1
   obtain⟨v,vs',rfl,h3,h4⟩:=h1
   simp only[List.cons_append,q61]
   exact⟨v,_,rfl,h3,ih m vs' y h4 h2⟩
 have hcall:=OkP_at hok ha hr hS hG (happ _ _ _ _ (hargs c.args.toList) hcv)
 have hrun:(execOp a.eval o).run P w=.ok (.enter f ((c.args.toList.map a.eval)++cvs).toArray) w:=by
  have e1:c.args.map a.eval++cvs.toArray=((c.args.toList.map a.eval)++cvs).toArray:=by
   apply Array.ext'
   simp
  simp[execOp,ho,resolve,hc,hv,Deferred.ofValue,invoke,xh8 hbody,e1]
 unfold Oper.wp
 rw[hrun,Oper.upon_enter]
 refine hcall.mono ?_
 rintro e w' ⟨v,G',rfl,h1,h2,h3⟩
 exact hK v G' w' h1 h2 h3
theorem q7n {P:Program}{o:Oper}{fr:List AV}{s:List Ob}{r:AV}{c:Call}{x:Operand}{f:FuncId}{fcs:List AV}(ho:o.op=.call c)(hc:c.callee=.value x)(hx:q42 fr x=.func (.func f) fcs)
  (hbody:z06 P f=true) (hok:Ok P f ((c.args.toList.map fun y=>(q42 fr y).soft)++fcs) [] r []) (ha:qp7 ((c.args.toList.map fun y=>(q42 fr y).soft)++fcs)=true) (hr:r.free=true) (hm:r.mark=none):xl8 P o fr s fr r s:=by
 intro M G w a hF hS hf K Q hK
 refine q4a ho hc hx hbody hok ha hr hS hF.2 hf K Q ?_
 intro v G' w' h1 h2 h3
 exact hK v G' w' (h3.mono fun _ _=>False.elim) h2 (hf.grow h3) ⟨h1,qe9.of_plain hm⟩
mutual
def AV.flat :AV→Bool
 |.ref _ _=>false
 |.arr _ _=>false
 |.eptr _ _=>false
 |.list cs _ _=>cs.isEmpty
 |.func _ cs=>kd4 cs
 |.agg cs=>kd4 cs
 |.tuple cs=>kd4 cs
 |.undef|.int ..|.bool _|.str _|.nilp|.nilf=>true
def kd4 :List AV→Bool
 |[]=>true
 |a::as=>a.flat&&kd4 as
end
mutual
theorem VR0.flat {G G':Gh}{w w':World}:∀ (a:AV) (v:Value),a.flat=true→VR0 G w a v→VR0 G' w' a v
 |.undef,_,_,_=>by simp only[VR0]
 |.int ..,_,_,hv=>by simp only[VR0] at hv ⊢;exact hv
 |.bool ..,_,_,hv=>by simp only[VR0] at hv ⊢;exact hv
 |.str ..,_,_,hv=>by simp only[VR0] at hv ⊢;exact hv
 |.nilp,_,_,hv=>by simp only[VR0] at hv ⊢;exact hv
 |.nilf,_,_,hv=>by simp only[VR0] at hv ⊢;exact hv
 |.ref i o,_,hb,_=>by simp[AV.flat] at hb
 |.arr i o,_,hb,_=>by simp[AV.flat] at hb
 |.eptr cs o,_,hb,_=>by simp[AV.flat] at hb
 |.list cs n g,_,hb,hv=>by
  simp only[VR0,AV.flat,List.isEmpty_iff] at hv hb ⊢
  obtain⟨A,cap,h1,h2,h3,h4⟩:=hv
  exact⟨A,cap,h1,h2,h3,.inl hb⟩
 |.func fn cs,_,hb,hv=>by
  simp only[VR0,AV.flat] at hv hb ⊢
  obtain⟨vs,h1,h2⟩:=hv
  exact⟨vs,h1,q61.flat cs vs hb h2⟩
 |.agg cs,_,hb,hv=>by
  simp only[VR0,AV.flat] at hv hb ⊢
  obtain⟨vs,h1,h2⟩:=hv
  exact⟨vs,h1,q61.flat cs vs hb h2⟩
 |.tuple cs,_,hb,hv=>by
  simp only[VR0,AV.flat] at hv hb ⊢
  obtain⟨vs,h1,h2⟩:=hv
  exact⟨vs,h1,q61.flat cs vs hb h2⟩
theorem q61.flat {G G':Gh}{w w':World}:∀ (as:List AV) (vs:List Value),kd4 as=true→q61 G w as vs→q61 G' w' as vs
 |[],_,_,hv=>by simp only[q61] at hv ⊢;exact hv
 |a::as,_,hb,hv=>by
  simp only[q61,kd4,Bool.and_eq_true] at hv hb ⊢
  obtain⟨v,vs',h1,h2,h3⟩:=hv
  exact⟨v,vs',h1,VR0.flat a v hb.1 h2,q61.flat as vs' hb.2 h3⟩
end
def Gh.bare (G:Gh):Gh:={ G with n:=0 }
theorem zp4 (G:Gh)(b:Nat):¬ G.bare.obj b:=fun⟨i,hi,_⟩=>by simp only[Gh.bare] at hi;omega
theorem jf3.bare {G:Gh}{w:World}{b o len:Nat}(h:jf3 G w b o len):jf3 G.bare w b o len:=⟨h.1,zp4 G b,h.2.2⟩
theorem GI.bare {P:Program}{G:Gh}{w:World}(h:GI P G w):GI P G.bare w:=fun hg=>by
 obtain⟨h1,h2,h3,h4⟩:=h hg
 exact⟨h1,h2,zp4 G 0,h4⟩
theorem OkR_at {P:Program}{f:FuncId}{args:List AV}{r:AV}(h:Ok P f args [] r [])(hr:r.flat=true){M:Nat→Prop}{G:Gh}{s:List Ob}{w:World}{cargs:List Value}(hS:Sim M G s w)(hG:GI P G w)(hargs:q61 G.bare w args cargs):
  Calls P f cargs.toArray w fun e w'=>∃ v G',e=.returned v∧VR0 G' w' r v∧Ext (fun _=>False) G w G' w'∧∀ s,Sim M G s w→Sim M G' s w':=by
 have h0:=h (fun _=>False) G.bare w cargs ⟨rfl,fun i j hi=>by simp only[Gh.bare] at hi;omega,fun i hi=>by simp only[Gh.bare] at hi;omega,fun i o hi=>by simp at hi,fun {i} hi=>by simp only[Gh.bare] at hi;omega,fun i o hi=>by simp at hi⟩ hG.bare hargs
 refine h0.mono ?_
 rintro e w' ⟨v,G1,rfl,h1,h2,h3⟩
 have hM:∀ b,b<w.heap.size→¬ va5 (fun _=>False) G.bare [] w b:=fun b hb hm=>by
  rcases hm with hm|⟨hm,_⟩
  ·omega
  ·exact hm
 have hE:Ext (fun _=>False) G w (G.back G1 w.heap.size) w':={
  size:=h3.size
  os:=h3.os
  tape:=h3.tape
  output:=h3.output
  n:=Nat.le_refl _
  live:=fun _ _ h=>h
  mu:=fun _ _=>rfl
  newobj:=fun i k1 k2=>by simp only[Gh.back] at k2;omega
  own:=fun b hb=>by simp only[Gh.back];rw[if_pos hb]
  phi:=fun b hb _=>by simp only[Gh.back];rw[if_pos hb];exact Nat.le_refl _
  cell:=fun b hb _ ho=>h3.cell b hb (zp4 G b) ho
  row:=fun b hb _ ho o hlt=>h3.row b hb (zp4 G b) ho o hlt
  keep:=fun b hb _ ho _=>⟨(h3.keep b hb (zp4 G b) ho (hM b hb)).1,by simp only[Gh.back];rw[if_pos hb],by simp only[Gh.back];rw[if_pos hb]⟩ }
 refine⟨v,G.back G1 w.heap.size,rfl,VR0.flat r v hr h1,hE,fun s hS=>?_⟩
 refine⟨hS.n,hS.inj,?_,hS.live,fun {i} hi hl=>Nat.lt_of_lt_of_le (hS.lt hi hl) hE.size,?_⟩
 ·intro i hi hl
  simp only[Gh.back] at hi hl ⊢
  rw[if_pos (hS.lt hi hl)]
  exact hS.own i hi hl
 ·intro i o hi hl
  obtain⟨vs,g1,g2,g3⟩:=hS.at_ i o hi hl
  have hin:i<G.n:=by rw[hS.n];exact q75 hi
  have hlv:G.live i=true:=hS.live i o hi hl
  refine⟨vs,?_,g2,fun k a u hk hu=>(g3 k a u hk hu).grow hE⟩
  show w'.heap[G.mu i]?=_
  rw[h3.cell _ (hS.lt hin hlv) (zp4 G _) (hS.own i hin hlv),g1]
theorem q4b {P:Program}{o:Oper}{fr:List AV}{s:List Ob}{r:AV}{c:Call}{x:Operand}{f:FuncId}{fcs args:List AV}{M:Nat→Prop}{G:Gh}{w:World}{a:Act}(ho:o.op=.call c)(hc:c.callee=.value x)(hx:q42 fr x=.func (.func f) fcs)
  (hbody:z06 P f=true) (hok:Ok P f args [] r []) (hsn:∀ cv,q61 G w ((c.args.toList.map fun y=>(q42 fr y).soft)++fcs) cv→q61 G.bare w args cv) (hr:r.flat=true)
  (hS:Sim M G s w) (hG:GI P G w) (hf:FR M G w fr a) (K:Act→World→Prop) (Q:Exit→Act→World→Prop)
  (hK:∀ v G' w',VR0 G' w' r v→Ext (fun _=>False) G w G' w'→(∀ s,Sim M G s w→Sim M G' s w')→K (a.put o.dst v) w'):o.wp P a w K Q:=by
 have hv:=(hf.eval x).1
 rw[hx] at hv
 simp only[VR0] at hv
 obtain⟨cvs,hv,hcv⟩:=hv
 have hargs:∀ l:List Operand,q61 G w (l.map fun y=>(q42 fr y).soft) (l.map a.eval):=by
  intro l
  induction l with
  |nil=>simp only[List.map_nil,q61]
  |cons y l ih =>
   simp only[List.map_cons,q61]
   exact⟨_,_,rfl,(hf.eval y).1.soft,ih⟩
 have happ:∀ (l m:List AV) (x y:List Value),q61 G w l x→q61 G w m y→q61 G w (l++m) (x++y):=by
  intro l
  induction l with
  |nil=>intro m x y h1 h2;simp only[q61] at h1;subst h1;exact h2
  |cons a l ih =>
   intro m x y h1 h2
   simp only[q61] at h1
   obtain⟨v,vs',rfl,h3,h4⟩:=h1
   simp only[List.cons_append,q61]
   exact⟨v,_,rfl,h3,ih m vs' y h4 h2⟩
 have hcall:=OkR_at hok hr hS hG (hsn _ (happ _ _ _ _ (hargs c.args.toList) hcv))
 have hrun:(execOp a.eval o).run P w=.ok (.enter f ((c.args.toList.map a.eval)++cvs).toArray) w:=by
  have e1:c.args.map a.eval++cvs.toArray=((c.args.toList.map a.eval)++cvs).toArray:=by
   apply Array.ext'
   simp
  simp[execOp,ho,resolve,hc,hv,Deferred.ofValue,invoke,xh8 hbody,e1]
 unfold Oper.wp
 rw[hrun,Oper.upon_enter]
 refine hcall.mono ?_
 rintro e w' ⟨v,G',rfl,h1,h2,h3⟩
 exact hK v G' w' h1 h2 h3
theorem Wks.of_get :∀ {l m:List AV},l.length=m.length→(∀ (i:Nat) (a b:AV),l[i]?=some a→m[i]?=some b→Wk a b)→Wks l m
 |[],[],_,_=>.nil
 |[],_::_,h,_=>by simp at h
 |_::_,[],h,_=>by simp at h
 |a::l,b::m,h,hh=>.cons (hh 0 a b rfl rfl) (Wks.of_get (by simpa using h) fun i x y hx hy=>hh (i+1) x y (by simpa using hx) (by simpa using hy))
theorem Wks.get :∀ {l m:List AV},Wks l m→∀ (i:Nat) (y y':AV),l[i]?=some y→m[i]?=some y'→Wk y y':=by
 intro l m hw
 induction hw with
 |nil=>intro i y y' h;simp at h
 |cons hh _ ih =>
  intro i y y' h h'
  cases i with
  |zero=>simp at h h';subst h;subst h';exact hh
  |succ i=>exact ih i y y' (by simpa using h) (by simpa using h')
theorem rep_get {α β:Type}(f:α→List β)(x:α)(z:Nat)(hz:(f x).length=z)(h0:0<z):∀ (n i:Nat),i<n*z→((List.replicate n x).flatMap f)[i]?=(f x)[i % z]?
 |0,i,h=>by omega
 |n+1,i,h=>by
  rw[List.replicate_succ,List.flatMap_cons]
  rcases Nat.lt_or_ge i z with h1|h1
  ·rw[List.getElem?_append_left (by omega),Nat.mod_eq_of_lt h1]
  ·rw[List.getElem?_append_right (by omega),hz,rep_get f x z hz h0 n (i-z) (by rw[Nat.succ_mul] at h;omega)]
   congr 1
   rw[Nat.mod_eq_sub_mod h1]
theorem zeros_wks {ty:Ty}{z:Value}{x:El ty}{n size:Nat}(hs:size=ty.size)(hz:z.cells.size=size)(h0:0<size)(h:dec ty (z.cells.toList.map u25)=some (x,[])):
  Wks (v12 z (n*size)) ((List.replicate n x).flatMap (q50 ty)):=by
 have hw:=wz6 ty _ _ _ h
 simp only[dns,List.append_nil,y14] at hw
 have hlen:(v12 z (n*size)).length=n*size:=by simp[v12,madeCells]
 refine .of_get (by rw[hlen,qx7,List.length_replicate,hs]) fun i a b ha hb=>?_
 have hi:i<n*size:=by rw[← hlen];exact q75 ha
 rw[rep_get (q50 ty) x size (by rw[qd7,hs]) h0 n i hi] at hb
 refine hw.get (i % size) a b ?_ hb
 have hn:¬ n*size=0:=by omega
 unfold v12 madeCells at ha
 rw[List.getElem?_map] at ha ⊢
 have hm:i % size<z.cells.size:=by rw[hz];exact Nat.mod_lt _ h0
 rw[Array.getElem?_toList] at ha ⊢
 rw[Array.getElem?_map] at ha
 rw[Array.getElem?_eq_getElem hm]
 rw[Array.getElem?_eq_getElem (by simpa using hi)] at ha
 simp[hz,hm] at ha ⊢
 rw[← ha,getElem!_pos z.cells (i % size) hm]
def tMake (P:Program)(t:TypeId)(n m:Int):Option (Bool×TypeId×(ty:Ty)×List (El ty)) :=
 match wr5 P t with
 |some (e,size)=>match P.info? e,tyOf P 10 e with
  |some i,some ty=>match i.zero with
   |some z=>if size=ty.size∧z.cells.size=size then
     match dec ty (z.cells.toList.map u25) with
     |some (x,[])=>some (jz5 i.bytes n m,e,⟨ty,List.replicate n.toNat x⟩)
     |_=>none
    else none
   |none=>none
  |_,_=>none
 |none=>none
theorem w1w {P:Program}{t e:TypeId}{n m:Int}{g:Bool}{ty:Ty}{xs:List (El ty)}(h:tMake P t n m=some (g,e,⟨ty,xs⟩))(hg:gdP g):
  ∃ cs,n=(n.toNat:Int)∧m=n∧xs.length=n.toNat∧q7r P t n.toNat=some (e,cs)∧Wks cs (xs.flatMap (q50 ty)):=by
 unfold tMake at h
 split at h
 case h_2=>cases h
 rename_i e' size he
 split at h
 case h_2=>cases h
 rename_i i ty' hi hty
 split at h
 case h_2=>cases h
 rename_i z hz
 split at h
 case isFalse=>cases h
 rename_i hc
 split at h
 case h_2=>cases h
 rename_i x hx
 simp only[Option.some.injEq,Prod.mk.injEq] at h
 obtain⟨rfl,rfl,h3⟩:=h
 cases h3
 simp only[gdP,jg3] at hg
 obtain⟨_,_,_,_,hpos⟩:=qz5 he
 obtain⟨nn,rfl⟩:∃ k:Nat,n=(k:Int):=⟨n.toNat,by omega⟩
 obtain⟨hnm,h0,hb,hl⟩:=hg
 refine⟨v12 z (nn*size),by simp,hnm.symm,by simp,?_,?_⟩
 ·unfold q7r
  rw[he]
  dsimp only
  rw[hi]
  dsimp only
  rw[hz]
  dsimp only
  rw[Int.toNat_natCast,if_pos]
  refine⟨?_,by omega⟩
  have:((i.bytes*nn:Nat):Int)≤281474976710656:=by rw[Int.natCast_mul];exact hb
  omega
 ·rw[Int.toNat_natCast]
  exact zeros_wks hc.1 hc.2 hpos hx
def tZero (P:Program)(t:TypeId):Option (List TV):=match P.info? t with
 |some i=>i.zero.map fun z=>z.cells.toList.map u25
 |none=>none
theorem uo9 {P:Program}{t:TypeId}{cs:List TV}(h:tZero P t=some cs):z98 P t=some (dns cs):=by
 unfold tZero at h
 unfold z98
 split at h
 ·rename_i i hi
  obtain⟨z,h1,rfl⟩:=q54 h
  simp only[hi,h1,Option.map_some,y14]
 ·cases h
def q2y (P:Program)(wr:Bool)(tb:Nat)(arr:Bool)(fr:List TV)(s:List TOb)(dst:Option Tmp)(op:Op):Option (Bool×List TV×TV×List TOb) :=
 match op with
 |.alloc t=>match tZero P t with
  |some cs=>some (true,fr,.ref s.length 0,s++[.cells cs t true])
  |none=>none
 |.box t x=>match q7e (q87 fr x) with
  |some cs=>some (true,fr,.ref s.length 0,s++[.cells cs t true])
  |none=>none
 |.store t x y=>match yk6 P s t (q87 fr x) (q87 fr y) with
  |some (g,s')=>some (g,fr,.tup [],s')
  |none=>none
 |.makeSlice t x y=>match q87 fr x,q87 fr y with
  |.int _ n,.int _ m=>match tMake P t n m with
   |some (g,e,⟨ty,xs⟩)=>if arr=true then some (g,fr,.arr s.length n.toNat,s++[.tarr ty xs e true]) else some (g,fr,.tl ty xs .full,s)
   |none=>none
  |_,_=>none
 |.call c=>match c.callee with
  |.builtin .append=>match c.args.toList,c.argTypes.toList with
   |[x,y],[t,t']=>if t=t' then xz1 P (tb+dst.getD 0) fr s t (q87 fr x) (q87 fr y) else none
   |_,_=>none
  |.builtin .len=>match c.args.toList,c.argTypes.toList with
   |[x],[t]=>match tLen P t (q87 fr x) with
    |some (g,v)=>some (g,fr,v,s)
    |none=>none
   |_,_=>none
  |.builtin .max=>match u32 P wr fr s op with
   |some (g,v)=>some (g,fr,v,s)
   |none=>none
  |.builtin .min=>match u32 P wr fr s op with
   |some (g,v)=>some (g,fr,v,s)
   |none=>none
  |_=>none
 |op=>match u32 P wr fr s op with
  |some (g,v)=>some (g,fr,v,s)
  |none=>none
theorem us8 (s t:List TOb):dnS (s++t)=dnS s++dnS t:=by simp[dnS]
theorem xl8.weakenV {P:Program}{o:Oper}{fr fr':List AV}{s s':List Ob}{v v':AV}(h:xl8 P o fr s fr' v s')(k:WkM v v'):xl8 P o fr s fr' v' s':=h.weaken (.refl _) k (.refl _)
theorem w1y {P:Program}{wr:Bool}{tb:Nat}{arr:Bool}{fr fr':List TV}{s s':List TOb}{o:Oper}{g:Bool}{v:TV}(h:q2y P wr tb arr fr s o.dst o.op=some (g,fr',v,s'))(hg:gdP g):xl8 P o (dns fr) (dnS s) (dns fr') (dn v) (dnS s'):=by
 have pure:∀ {g v},u32 P wr fr s o.op=some (g,v)→gdP g→xl8 P o (dns fr) (dnS s) (dns fr) (dn v) (dnS s):=by
  intro g v h hg
  obtain⟨a,h1,h2⟩:=uo8 h hg
  exact(k98 h1).weakenV h2
 have other:(match u32 P wr fr s o.op with|some (g,v)=>some (g,fr,v,s)|none=>none)=some (g,fr',v,s')→xl8 P o (dns fr) (dnS s) (dns fr') (dn v) (dnS s'):=by
  intro h
  split at h
  ·rename_i g1 v1 h1
   cases h
   exact pure h1 hg
  ·cases h
 obtain⟨dst,op,type,pos,after,guard⟩:=o
 unfold q2y at h
 dsimp only at h
 split at h
 ·rename_i t
  split at h
  ·rename_i cs hz
   cases h
   rw[us8]
   have:=q7l (P:=P) (o:=⟨dst,.alloc t,type,pos,after,guard⟩) (fr:=dns fr) (s:=dnS s) rfl (uo9 hz)
   rw[q84] at this
   exact this
  ·cases h
 ·rename_i t x
  split at h
  ·rename_i cs hz
   cases h
   rw[us8]
   have hz':=u26 hz
   rw[q64] at hz'
   have:=Step_box (P:=P) (o:=⟨dst,.box t x,type,pos,after,guard⟩) (fr:=dns fr) (s:=dnS s) rfl hz'
   rw[q84] at this
   exact this
  ·cases h
 ·rename_i t x y
  split at h
  ·rename_i g1 s1 hz
   cases h
   exact k50 (o:=⟨dst,.store t x y,type,pos,after,guard⟩) rfl hz hg
  ·cases h
 ·rename_i t x y
  split at h
  case h_2=>cases h
  rename_i k n k' m hx hy
  split at h
  case h_2=>cases h
  rename_i g1 e ty xs hmk
  have hg1:gdP g1:=by
   split at h<;>cases h<;>exact hg
  obtain⟨cs,e1,e2,e3,e4,e5⟩:=w1w hmk hg1
  have hx':q42 (dns fr) x=.int k n.toNat:=by rw[← q64,hx];simp only[dn];rw[← e1]
  have hy':q42 (dns fr) y=.int k' n.toNat:=by rw[← q64,hy];simp only[dn];rw[← e1,e2]
  split at h
  ·cases h
   rw[us8]
   have:=k97 (P:=P) (o:=⟨dst,.makeSlice t x y,type,pos,after,guard⟩) (fr:=dns fr) (s:=dnS s) rfl hx' hy' e4
   rw[q84] at this
   refine this.weaken (.refl _) (.refl _) ?_
   refine⟨by simp[dnS],fun i o o' h h'=>?_⟩
   rw[List.getElem?_append] at h h'
   split at h
   ·rename_i hlt
    rw[if_pos hlt,h] at h'
    cases h'
    exact .refl _
   ·rename_i hlt
    rw[if_neg hlt] at h'
    cases hq:i-(dnS s).length with
    |zero =>
     rw[hq] at h h'
     cases h
     cases h'
     refine fun hl=>⟨rfl,hl,e5.len.symm,fun j a a' ha ha'=>?_⟩
     exact .of (e5.get j a a' ha ha') (wn7 _ a' (List.mem_of_getElem? ha'))
    |succ q=>rw[hq] at h;simp at h
  ·cases h
   refine(v15 (uq7 (P:=P) (o:=⟨dst,.makeSlice t x y,type,pos,after,guard⟩) (fr:=dns fr) (s:=dnS s) rfl hx' hy' e4)).weakenV ?_
   refine .of ?_ rfl
   simp only[dn]
   rw[e3]
   exact .list e5 fun _=>rfl
 ·rename_i c
  split at h
  ·rename_i hc
   split at h
   ·rename_i x y t t' ha ht
    split at h
    ·rename_i htt
     subst htt
     have ha':c.args=#[x,y]:=by apply Array.ext';simpa using ha
     have ht':c.argTypes=#[t,t]:=by apply Array.ext';simpa using ht
     exact kr3 (o:=⟨dst,.call c,type,pos,after,guard⟩) rfl hc ha' ht' h hg
    ·cases h
   ·cases h
  ·rename_i hc
   split at h
   ·rename_i x t ha ht
    split at h
    ·rename_i g1 v1 h1
     cases h
     refine pure (g:=g) (v:=v) ?_ hg
     simp only[u32,hc,ha,ht,h1]
    ·cases h
   ·cases h
  ·exact other h
  ·exact other h
  ·cases h
 ·exact other h
def v36 {β:Type}(v:TV)(k:TV→β):β:=match v with
 |.undef=>k .undef
 |.int a b=>k (.int a b)
 |.bool b=>k (.bool b)
 |.tt=>k .tt
 |.ff=>k .ff
 |.str s=>k (.str s)
 |.nilp=>k .nilp
 |.ref i o=>k (.ref i o)
 |.tl t xs g=>k (.tl t xs g)
 |.ll cs n g=>k (.ll cs n g)
 |.ep cs o=>k (.ep cs o)
 |.arr i n=>k (.arr i n)
 |.ap i ix sz o=>k (.ap i ix sz o)
 |.nilf=>k .nilf
 |.func f cs=>k (.func f cs)
 |.agg cs=>k (.agg cs)
 |.tup vs=>k (.tup vs)
theorem zt3 {β:Type}(v:TV)(k:TV→β):v36 v k=k v:=by cases v<;>rfl
def zy6 {β:Type}:List TV→(List TV→β)→β
 |[],k=>k []
 |v::l,k=>v36 v fun v=>zy6 l fun l=>k (v::l)
theorem w55 {β:Type}:∀ (l:List TV) (k:List TV→β),zy6 l k=k l
 |[],k=>rfl
 |v::l,k=>by simp only[zy6,zt3,w55 l]
def q5d {β:Type}(o:TOb)(k:TOb→β):β:=match o with
 |.cells cs t l=>zy6 cs fun cs=>k (.cells cs t l)
 |.tarr ty xs t l=>k (.tarr ty xs t l)
theorem kd5 {β:Type}(o:TOb)(k:TOb→β):q5d o k=k o:=by cases o<;>simp only[q5d,w55]
def z70 {β:Type}:List TOb→(List TOb→β)→β
 |[],k=>k []
 |o::l,k=>q5d o fun o=>z70 l fun l=>k (o::l)
theorem qu6 {β:Type}:∀ (l:List TOb) (k:List TOb→β),z70 l k=k l
 |[],k=>rfl
 |o::l,k=>by simp only[z70,kd5,qu6 l]
def uo5 {β:Type}:List TV→Nat→TV→(List TV→β)→β
 |[],_,_,k=>k []
 |_::l,0,v,k=>k (v::l)
 |x::l,d+1,v,k=>uo5 l d v fun l=>k (x::l)
theorem j35 {β:Type}:∀ (l:List TV) (d:Nat) (v:TV) (k:List TV→β),uo5 l d v k=k (l.set d v)
 |[],_,_,k=>rfl
 |_::l,0,v,k=>rfl
 |x::l,d+1,v,k=>by simp only[uo5,j35 l,List.set_cons_succ]
def jf0 {β:Type}(fr:List TV)(d:Option Nat)(v:TV)(k:List TV→β):β:=match d with
 |none=>k fr
 |some d=>v36 v fun v=>uo5 fr d v k
theorem wd2 {β:Type}(fr:List TV)(d:Option Nat)(v:TV)(k:List TV→β):jf0 fr d v k=k (tPut fr d v):=by
 cases d with
 |none=>rfl
 |some d=>simp only[jf0,zt3,j35,tPut]
abbrev q46 :=FuncId→(β:Type)→List TV→List TOb→(TV→List TOb→Option β)→Option β
inductive SK where
 |asis
 |int (k:IntKind)
 |bool
 |str
 |own (ty:Ty) (m:Nat) (e:TypeId) (z:Nat)
 |lst (ty:Ty)
 |agg (ty:Ty)
inductive OK where
 |same
 |cells (ks:List SK)
inductive TW where
 |alloc (r:Nat)
 |store (own:Bool) (i:Nat)
 |app (t0:Nat)
structure HDat where
 n:Nat
 L:Nat
 K:Nat
 ws:List (Nat×TW)
 ev:List (Nat×List (Bool×Nat))
structure LH where
 keep:List (Nat×SK)
 base:List (Nat×List SK)
 objs:List OK
structure Sc where
 P:Program
 arrs:List Nat
 heads:List (Nat×HDat)
 frz:List (Nat×Nat)
 wrap:Bool
 rd:List Nat
 joins:List (Nat×LH)
structure Cfg where
 N:Nat
 C:q46
 n0:Nat
def u35 :TV→TV
 |.tl t xs _=>.tl t xs .unk
 |.ll cs n _=>.ll cs n .unk
 |v=>v
theorem dn_tsoft (v:TV):dn (u35 v)=(dn v).soft:=by cases v<;>rfl
def yf0 (s:List TOb):List Nat:=s.flatMap fun o=>match o with
 |.cells cs _ _=>cs.filterMap wd3
 |.tarr ..=>[]
theorem ys5 {α β:Type}(f:α→Option β):∀ l:List α,(∀ a∈l,f a=none)→l.filterMap f=[]
 |[],_=>rfl
 |a::l,h=>by rw[List.filterMap_cons,h a (by simp)];exact ys5 f l fun b hb=>h b (by simp[hb])
theorem vk5 (s:List TOb):qc5 (dnS s)=yf0 s:=by
 unfold qc5 yf0 dnS
 rw[List.flatMap_map]
 congr 1
 funext o
 cases o with
 |cells cs t l =>
  simp only[dnO,qm9,List.filterMap_map]
  congr 1
  funext v
  exact za3 v
 |tarr ty xs t l=>simp only[dnO];exact ys5 _ _ (wn7 xs)
def x84 {β:Type}(ts:List Nat)(fr:List TV)(k:List TV→β):β:=match ts with
 |[]=>k fr
 |ts=>zy6 (zb8 ts fr) k
theorem w1z (v:TV):xi6 [] v=v:=by unfold xi6;split<;>simp
theorem x85 {β:Type}(ts:List Nat)(fr:List TV)(k:List TV→β):x84 ts fr k=k (zb8 ts fr):=by
 cases ts with
 |nil=>simp only[x84,zb8];rw[show xi6 []=id from funext w1z,List.map_id]
 |cons t ts=>simp only[x84,w55]
mutual
def jy8 :TV→Bool
 |.ref _ _=>false
 |.arr _ _=>false
 |.ap _ _ _ _=>false
 |.ep cs _=>!cs.isEmpty&&zl6 cs
 |.ll cs _ _=>zl6 cs
 |.func _ cs=>zl6 cs
 |.agg cs=>zl6 cs
 |.tup cs=>zl6 cs
 |.undef|.int ..|.bool _|.tt|.ff|.str _|.nilp|.tl ..|.nilf=>true
def zl6 :List TV→Bool
 |[]=>true
 |a::as=>jy8 a&&zl6 as
end
theorem xd1 :∀ {l:List AV},(∀ a∈l,a.free=true)→qp7 l=true
 |[],_=>rfl
 |a::l,h=>by
  have h1:=h a List.mem_cons_self
  have h2:qp7 l=true:=xd1 fun b hb=>h b (List.mem_cons_of_mem _ hb)
  simp only[qp7,h1,h2,Bool.and_self]
mutual
theorem zx4 :∀ (t:Ty) (x:El t),∀ a∈q50 t x,a.free=true
 |.int _,_,a,h=>by simp only[q50,List.mem_singleton] at h;subst h;rfl
 |.bool,_,a,h=>by simp only[q50,List.mem_singleton] at h;subst h;rfl
 |.str,_,a,h=>by simp only[q50,List.mem_singleton] at h;subst h;rfl
 |.list e,xs,a,h=>by
  simp only[q50,List.mem_singleton] at h
  subst h
  simp only[AV.free]
  refine xd1 fun b hb=>?_
  obtain⟨x,_,hx⟩:=List.mem_flatMap.1 hb
  exact zx4 e x b hx
 |.st fs,x,a,h=>by simp only[q50] at h;exact jg5 fs x a h
theorem jg5 :∀ (ts:List Ty) (x:Els ts),∀ a∈qb9 ts x,a.free=true
 |[],_,a,h=>by simp[qb9] at h
 |t::ts,x,a,h=>by
  simp only[qb9,List.mem_append] at h
  rcases h with h|h
  ·exact zx4 t x.1 a h
  ·exact jg5 ts x.2 a h
end
theorem wn6 {t:Ty}(xs:List (El t)):qp7 (xs.flatMap (q50 t))=true:=by
 refine xd1 fun b hb=>?_
 obtain⟨x,_,hx⟩:=List.mem_flatMap.1 hb
 exact zx4 t x b hx
mutual
theorem zp1 :∀ (v:TV),jy8 v=true→(dn v).free=true
 |.undef,_=>rfl
 |.int ..,_=>rfl
 |.bool _,_=>rfl
 |.tt,_=>rfl
 |.ff,_=>rfl
 |.str _,_=>rfl
 |.nilp,_=>rfl
 |.nilf,_=>rfl
 |.tl t xs g,_=>wn6 xs
 |.ref i _,h=>by simp[jy8] at h
 |.arr i _,h=>by simp[jy8] at h
 |.ap i _ _ _,h=>by simp[jy8] at h
 |.ll cs _ _,h=>by simp only[jy8] at h;exact qy3 cs h
 |.ep cs _,h=>by
  simp only[jy8,Bool.and_eq_true] at h
  simp only[dn,AV.free,qy3 cs h.2,Bool.and_true]
  cases cs with
  |nil=>simp at h
  |cons=>rfl
 |.func _ cs,h=>by simp only[jy8] at h;exact qy3 cs h
 |.agg cs,h=>by simp only[jy8] at h;exact qy3 cs h
 |.tup cs,h=>by simp only[jy8] at h;exact qy3 cs h
theorem qy3 :∀ (l:List TV),zl6 l=true→qp7 (dns l)=true
 |[],_=>rfl
 |a::l,h=>by
  simp only[zl6,Bool.and_eq_true] at h
  simp only[dns,qp7,zp1 a h.1,qy3 l h.2,Bool.and_self]
end
theorem xp2 {a:AV}(h:a.free=true):a.plain.free=true:=by
 cases a<;>try exact h
 rename_i cs n g
 cases g<;>exact h
mutual
def xz6 :TV→Bool
 |.ref _ _=>false
 |.arr _ _=>false
 |.ap _ _ _ _=>false
 |.ep _ _=>false
 |.ll cs _ _=>cs.isEmpty
 |.tl _ _ _=>false
 |.func _ cs=>up2 cs
 |.agg cs=>up2 cs
 |.tup cs=>up2 cs
 |.undef|.int ..|.bool _|.tt|.ff|.str _|.nilp|.nilf=>true
def up2 :List TV→Bool
 |[]=>true
 |a::as=>xz6 a&&up2 as
end
mutual
theorem xz7 :∀ (v:TV),xz6 v=true→(dn v).flat=true
 |.undef,_=>rfl
 |.int ..,_=>rfl
 |.bool _,_=>rfl
 |.tt,_=>rfl
 |.ff,_=>rfl
 |.str _,_=>rfl
 |.nilp,_=>rfl
 |.nilf,_=>rfl
 |.tl t xs g,h=>by simp[xz6] at h
 |.ref i _,h=>by simp[xz6] at h
 |.arr i _,h=>by simp[xz6] at h
 |.ap i _ _ _,h=>by simp[xz6] at h
 |.ep cs _,h=>by simp[xz6] at h
 |.ll cs _ _,h=>by
  simp only[xz6,List.isEmpty_iff] at h
  subst h
  rfl
 |.func _ cs,h=>by simp only[xz6] at h;exact jp1 cs h
 |.agg cs,h=>by simp only[xz6] at h;exact jp1 cs h
 |.tup cs,h=>by simp only[xz6] at h;exact jp1 cs h
theorem jp1 :∀ (l:List TV),up2 l=true→kd4 (dns l)=true
 |[],_=>rfl
 |a::l,h=>by
  simp only[up2,Bool.and_eq_true] at h
  simp only[dns,kd4,xz7 a h.1,jp1 l h.2,Bool.and_self]
end
theorem q8i {a:AV}(h:a.flat=true):a.plain.flat=true:=by
 cases a<;>try exact h
 rename_i cs n g
 cases g<;>exact h
def zb7 (s:List TOb):Nat→TV→TV
 |0,v=>v
 |d+1,.ref i o=>match s[i]? with
  |some (.cells cs t true)=>.ep (cs.map fun c=>zb7 s d (qq3 c)) o
  |_=>.ref i o
 |d+1,.func f cs=>.func f (cs.map fun c=>zb7 s d c)
 |d+1,.agg cs=>.agg (cs.map fun c=>zb7 s d c)
 |_,v=>v
theorem VR0.bare {G:Gh}{w:World}{a:AV}{v:Value}(ha:a.free=true)(h:VR0 G w a v):VR0 G.bare w a v :=
 VR0.move (fun _ _ _ _ hs=>hs.bare) a v ha h
theorem ye6 {G:Gh}{w:World}{f:TV→TV}(hf:∀ v cv,jy8 (f v)=true→VR0 G w (dn v) cv→VR0 G.bare w (dn (f v)) cv):∀ (cs:List TV) (vs:List Value),zl6 (cs.map f)=true→q61 G w (dns cs) vs→q61 G.bare w (dns (cs.map f)) vs
 |[],vs,_,h=>by simp only[List.map_nil,dns,q61] at h ⊢;exact h
 |c::cs,vs,hb,h=>by
  simp only[List.map_cons,zl6,Bool.and_eq_true] at hb
  simp only[List.map_cons,dns,q61] at h ⊢
  obtain⟨v,vs',rfl,h1,h2⟩:=h
  exact⟨v,vs',rfl,hf c v hb.1 h1,ye6 hf cs vs' hb.2 h2⟩
theorem yk2 {M:Nat→Prop}{G:Gh}{s:List TOb}{w:World}(hS:Sim M G (dnS s) w):∀ (d:Nat) (v:TV) (cv:Value),jy8 (zb7 s d v)=true→VR0 G w (dn v) cv→VR0 G.bare w (dn (zb7 s d v)) cv
 |0,v,cv,hf,h=>by simp only[zb7] at hf ⊢;exact VR0.bare (zp1 v hf) h
 |d+1,v,cv,hf,h=>by
  have same:zb7 s (d+1) v=v→VR0 G.bare w (dn (zb7 s (d+1) v)) cv:=fun e=>by
   rw[e] at hf ⊢
   exact VR0.bare (zp1 v hf) h
  cases v with
  |ref i o =>
   cases hs:s[i]? with
   |none=>exact same (by simp only[zb7,hs])
   |some ob =>
    cases ob with
    |tarr ty xs t l=>exact same (by simp only[zb7,hs])
    |cells cs t l =>
     cases l with
     |false=>exact same (by simp only[zb7,hs])
     |true =>
      have e:zb7 s (d+1) (.ref i o)=.ep (cs.map fun c=>zb7 s d (qq3 c)) o:=by simp only[zb7,hs]
      rw[e] at hf ⊢
      simp only[jy8,Bool.and_eq_true] at hf
      simp only[dn,VR0] at h ⊢
      have hi:(dnS s)[i]?=some (dnO (.cells cs t true)):=by rw[qk0,hs];rfl
      obtain⟨vs,h1,h2,h3⟩:=hS.at_ i _ hi rfl
      have hin:i<G.n:=h.2
      have hlv:=hS.live i _ hi rfl
      refine⟨G.mu i,0,vs,by rw[Nat.zero_add];exact h.1,⟨hS.lt hin hlv,zp4 G _,fun ho=>?_⟩,?_,?_⟩
      ·have ho:G.own (G.mu i)=true:=ho
       rw[hS.own i hin hlv] at ho
       cases ho
      ·intro k v hk
       rw[Nat.zero_add,w63 h1]
       exact hk
      ·have h4:q61 G w (dns (cs.map qq3)) vs:=by
        rw[zo0]
        refine q61.mk (by rw[h2];simp[dnO]) fun k a v hk hv=>?_
        rw[List.getElem?_map] at hk
        obtain⟨a0,hk1,rfl⟩:=q54 hk
        exact(h3 k a0 v hk1 hv).1.plain
       have h5:=ye6 (f:=fun c=>zb7 s d c) (fun v cv=>yk2 hS d v cv) (cs.map qq3) vs (by rw[List.map_map];exact hf.2) h4
       rw[List.map_map] at h5
       exact h5
  |func f cs =>
   have e:zb7 s (d+1) (.func f cs)=.func f (cs.map fun c=>zb7 s d c):=by simp only[zb7]
   rw[e] at hf ⊢
   simp only[jy8] at hf
   simp only[dn,VR0] at h ⊢
   obtain⟨vs,h1,h2⟩:=h
   exact⟨vs,h1,ye6 (fun v cv=>yk2 hS d v cv) cs vs hf h2⟩
  |agg cs =>
   have e:zb7 s (d+1) (.agg cs)=.agg (cs.map fun c=>zb7 s d c):=by simp only[zb7]
   rw[e] at hf ⊢
   simp only[jy8] at hf
   simp only[dn,VR0] at h ⊢
   obtain⟨vs,h1,h2⟩:=h
   exact⟨vs,h1,ye6 (fun v cv=>yk2 hS d v cv) cs vs hf h2⟩
  |_=>exact same rfl
theorem uo6 {M:Nat→Prop}{G:Gh}{s:List TOb}{w:World}(hS:Sim M G (dnS s) w)(d:Nat)(l:List TV)(vs:List Value)(hf:zl6 (l.map (zb7 s d))=true)(h:q61 G w (dns l) vs):q61 G.bare w (dns (l.map (zb7 s d))) vs :=
 ye6 (fun v cv=>yk2 hS d v cv) l vs hf h
def inN (x:Nat):List Nat→Bool
 |[]=>false
 |y::l=>match Nat.beq x y with
  |true=>true
  |false=>inN x l
section
variable {β:Type} (sc:Sc) (cf:Cfg)
def kd1 (dst:Option Tmp)(op:Op)(fr:List TV)(s:List TOb)(k:List TV→List TOb→Option β):Option β :=
 match op with
 |.pick c x y=>match q87 fr c with
  |.tt=>jf0 fr dst (q87 fr x) fun fr=>k fr s
  |.ff=>jf0 fr dst (q87 fr y) fun fr=>k fr s
  |.bool b=>match c with
   |.tmp t=>cond b (uo5 fr t .tt fun fr=>jf0 fr dst (q87 fr x) fun fr=>k fr s) (uo5 fr t .ff fun fr=>jf0 fr dst (q87 fr y) fun fr=>k fr s)
   |_=>none
  |_=>none
 |.call c=>match c.callee with
  |.value x=>match q87 fr x with
   |.func (.func f) fcs=>zy6 ((c.args.toList.map fun y=>u35 (q87 fr y))++fcs) fun args=>match zl6 args with
    |true=>cf.C f β args [] fun r s'=>match s',jy8 r with
     |[],true=>jf0 fr dst (qq3 r) fun fr=>k fr s
     |_,_=>cf.C f β args s fun r s'=>x84 (yf0 s) fr fun fr=>jf0 fr dst (qq3 r) fun fr=>k fr s'
    |false=>match inN f sc.rd with
     |true=>zy6 (args.map (zb7 s 4)) fun args=>match zl6 args with
      |true=>cf.C f β args [] fun r s'=>match s',xz6 r with
       |[],true=>jf0 fr dst (qq3 r) fun fr=>k fr s
       |_,_=>none
      |false=>none
     |false=>cf.C f β args s fun r s'=>x84 (yf0 s) fr fun fr=>jf0 fr dst (qq3 r) fun fr=>k fr s'
   |_=>none
  |_=>match q2y sc.P sc.wrap 1000 (dst.any fun d=>sc.arrs.contains d) fr s dst op with
   |some (g,fr',v,s')=>cond g (zy6 fr' fun fr=>jf0 fr dst v fun fr=>z70 s' fun s=>k fr s) none
   |none=>none
 |op=>match q2y sc.P sc.wrap 1000 (dst.any fun d=>sc.arrs.contains d) fr s dst op with
  |some (g,fr',v,s')=>cond g (jf0 fr' dst v fun fr=>z70 s' fun s=>k fr s) none
  |none=>none
def vo9 (A:Array Oper)(g:Nat):Option Nat:=(A[g]?).bind (·.dst)
def z89 (A:Array Oper):List Oper→List TV→List TOb→(List TV→List TOb→Option β)→Option β
 |[],fr,s,k=>k fr s
 |o::l,fr,s,k=>match o.guard with
  |none=>kd1 sc cf o.dst o.op fr s fun fr s=>z89 A l fr s k
  |some (g,want)=>match vo9 A g with
   |none=>none
   |some t=>match fr.getD t .undef with
    |.tt=>if want=true then kd1 sc cf o.dst o.op fr s fun fr s=>z89 A l fr s k else jf0 fr o.dst (.tup []) fun fr=>z89 A l fr s k
    |.ff=>if want=true then jf0 fr o.dst (.tup []) fun fr=>z89 A l fr s k else kd1 sc cf o.dst o.op fr s fun fr s=>z89 A l fr s k
    |.tup []=>jf0 fr o.dst (.tup []) fun fr=>z89 A l fr s k
    |.bool b=>cond b
     (uo5 fr t .tt fun fr=>if want=true then kd1 sc cf o.dst o.op fr s fun fr s=>z89 A l fr s k else jf0 fr o.dst (.tup []) fun fr=>z89 A l fr s k)
     (uo5 fr t .ff fun fr=>if want=true then jf0 fr o.dst (.tup []) fun fr=>z89 A l fr s k else kd1 sc cf o.dst o.op fr s fun fr s=>z89 A l fr s k)
    |_=>none
end
def q13 (P:Program)(C:q46):Prop:=∀ (f:FuncId) (β:Type) (args:List TV) (s:List TOb) (k:TV→List TOb→Option β) (b:β),C f β args s k=some b →
 z06 P f=true∧∃ r s',Ok P f (dns args) (dnS s) (dn r) (dnS s')∧k r s'=some b
theorem Ok.weaken {P:Program}{f:FuncId}{args:List AV}{s s':List Ob}{r r':AV}(h:Ok P f args s r s')(hw:Wk r r'):Ok P f args s r' s':=by
 intro M G w cargs hS hG hargs
 refine(h M G w cargs hS hG hargs).mono ?_
 rintro e w' ⟨v,G',h1,h2,h3⟩
 exact⟨v,G',h1,hw G' w' v h2,h3⟩
theorem qk4 {fr:List TV}{t:Nat}{v:TV}(h:dn (fr.getD t .undef)=dn v):dns (fr.set t v)=dns fr:=by
 rw[ut1]
 by_cases ht:t<fr.length
 ·apply List.ext_getElem?
  intro i
  rw[List.getElem?_set]
  split
  ·rename_i hti
   subst hti
   rw[if_pos (by rw[qc0];exact ht),ut0]
   rw[List.getElem?_eq_getElem ht]
   rw[List.getD_eq_getElem?_getD,List.getElem?_eq_getElem ht] at h
   simpa using h.symm
  ·rfl
 ·rw[List.set_eq_of_length_le (by rw[qc0];omega)]
theorem qb4 {β:Type}{g:Bool}{x:Option β}{b:β}(h:cond g x none=some b):g=true∧x=some b:=by
 cases g with
 |true=>exact⟨rfl,h⟩
 |false=>cases h
theorem vj4 (fr:List TV)(args:List Operand):(args.map fun y=>(q42 (dns fr) y).soft)=dns (args.map fun y=>u35 (q87 fr y)):=by
 rw[show dns (args.map fun y=>u35 (q87 fr y))=(args.map fun y=>u35 (q87 fr y)).map dn from qm9 _,List.map_map]
 apply List.map_congr_left
 intro y _
 simp[dn_tsoft,q64]
section
variable {n0:Nat} {β:Type} {sc:Sc} {cf:Cfg} {b:β}
theorem kx5 (hC:q13 sc.P cf.C){A:Array Oper}{o:Oper}{rest:List Oper}{fr:List TV}{s:List TOb}{k:List TV→List TOb→Option β}(hw:q85 A (dns fr) o=some true)
  (h:kd1 sc cf o.dst o.op fr s k=some b):∃ fr' s',k fr' s'=some b∧∀ Q,AL n0 sc.P A rest (dns fr') (dnS s') Q→AL n0 sc.P A (o::rest) (dns fr) (dnS s) Q:=by
 have step:∀ {arr:Bool} {g:Bool} {fr':List TV} {v:TV} {s':List TOb},q2y sc.P sc.wrap 1000 arr fr s o.dst o.op=some (g,fr',v,s')→g=true→k (tPut fr' o.dst v) s'=some b→∃ fr' s',k fr' s'=some b∧∀ Q,AL n0 sc.P A rest (dns fr') (dnS s') Q→AL n0 sc.P A (o::rest) (dns fr) (dnS s) Q:=by
  intro arr g fr' v s' h1 h2 h3
  refine⟨_,_,h3,fun Q this=>?_⟩
  rw[w08] at this
  exact vi4 hw (w1y h1 h2) this
 have viaStep:∀ {arr:Bool},(match q2y sc.P sc.wrap 1000 arr fr s o.dst o.op with
   |some (g,fr',v,s')=>cond g (jf0 fr' o.dst v fun fr=>z70 s' fun s=>k fr s) none
   |none=>none)=some b→∃ fr' s',k fr' s'=some b∧∀ Q,AL n0 sc.P A rest (dns fr') (dnS s') Q→AL n0 sc.P A (o::rest) (dns fr) (dnS s) Q:=by
  intro arr h
  split at h
  ·rename_i g fr' v s' h1
   obtain⟨h2,h3⟩:=qb4 h
   simp only[wd2,qu6] at h3
   exact step h1 h2 h3
  ·cases h
 have viaStep2:∀ {arr:Bool},(match q2y sc.P sc.wrap 1000 arr fr s o.dst o.op with
   |some (g,fr',v,s')=>cond g (zy6 fr' fun fr=>jf0 fr o.dst v fun fr=>z70 s' fun s=>k fr s) none
   |none=>none)=some b→∃ fr' s',k fr' s'=some b∧∀ Q,AL n0 sc.P A rest (dns fr') (dnS s') Q→AL n0 sc.P A (o::rest) (dns fr) (dnS s) Q:=by
  intro arr h
  split at h
  ·rename_i g fr' v s' h1
   obtain⟨h2,h3⟩:=qb4 h
   simp only[wd2,qu6,w55] at h3
   exact step h1 h2 h3
  ·cases h
 obtain⟨dst,op,type,pos,after,guard⟩:=o
 unfold kd1 at h
 dsimp only at h
 split at h
 ·rename_i c x y
  have pick:∀ {t:Bool} {fr2:List TV} {z:Operand},dns fr2=dns fr→q42 (dns fr) c=.bool t→z=(if t=true then x else y)→k (tPut fr2 dst (q87 fr2 z)) s=some b→∃ fr' s',k fr' s'=some b∧∀ Q,AL n0 sc.P A rest (dns fr') (dnS s') Q→AL n0 sc.P A (⟨dst,.pick c x y,type,pos,after,guard⟩::rest) (dns fr) (dnS s) Q:=by
   intro t fr2 z h1 h2 h3 h4
   refine⟨_,_,h4,fun Q h5=>?_⟩
   rw[w08,q64,h1] at h5
   refine vi4 hw (k98 (v:=q42 (dns fr) z) ?_) h5
   simp only[qo3,h2]
   subst h3
   cases t<;>rfl
  split at h
  ·rename_i hc
   rw[wd2] at h
   exact pick (t:=true) rfl (by rw[← q64,hc];rfl) rfl h
  ·rename_i hc
   rw[wd2] at h
   exact pick (t:=false) rfl (by rw[← q64,hc];rfl) rfl h
  ·rename_i t hc
   split at h
   ·rename_i ct
    have hc':fr.getD ct .undef=.bool t:=hc
    simp only[j35,wd2] at h
    cases t with
    |true=>exact pick (t:=true) (qk4 (by rw[hc'];rfl)) (by rw[← q64,hc];rfl) rfl h
    |false=>exact pick (t:=false) (qk4 (by rw[hc'];rfl)) (by rw[← q64,hc];rfl) rfl h
   ·cases h
  ·cases h
 ·rename_i c
  split at h
  ·rename_i x hx
   split at h
   ·rename_i f fcs hf
    rw[w55] at h
    have hf':q42 (dns fr) x=.func (.func f) (dns fcs):=by rw[← q64,hf];rfl
    have hargs:dns ((c.args.toList.map fun y=>u35 (q87 fr y))++fcs)=(c.args.toList.map fun y=>(q42 (dns fr) y).soft)++dns fcs:=by rw[y13,← vj4]
    have general:(cf.C f β ((c.args.toList.map fun y=>u35 (q87 fr y))++fcs) s fun r s'=>x84 (yf0 s) fr fun fr=>jf0 fr dst (qq3 r) fun fr=>k fr s')=some b→∃ fr' s',k fr' s'=some b∧∀ Q,AL n0 sc.P A rest (dns fr') (dnS s') Q→AL n0 sc.P A (⟨dst,.call c,type,pos,after,guard⟩::rest) (dns fr) (dnS s) Q:=by
     intro h
     obtain⟨hen,r,s',hok,hk'⟩:=hC f β _ s _ b h
     simp only[x85,wd2] at hk'
     refine⟨_,_,hk',fun Q h5=>?_⟩
     rw[w08,wu0,qo9,← vk5] at h5
     rw[hargs] at hok
     exact vi4 hw (Step_call rfl hx hf' hen (hok.weaken (AV.plain_wk _)) (AV.mark_plain _)) h5
    split at h
    ·rename_i hfree
     obtain⟨hen,r,s',hok,hk'⟩:=hC f β _ [] _ b h
     split at hk'
     ·rename_i hr
      rw[wd2] at hk'
      refine⟨_,_,hk',fun Q h5=>?_⟩
      rw[w08,qo9] at h5
      have hfa:=qy3 _ hfree
      rw[hargs] at hok hfa
      exact vi4 hw (q7n rfl hx hf' hen (hok.weaken (AV.plain_wk _)) hfa (xp2 (zp1 r hr)) (AV.mark_plain _)) h5
     ·exact general hk'
    ·split at h
     ·rw[w55] at h
      split at h
      ·rename_i hfree
       obtain⟨hen,r,s',hok,hk'⟩:=hC f β _ [] _ b h
       split at hk'
       ·rename_i hr
        rw[wd2] at hk'
        refine⟨_,_,hk',fun Q h5=>?_⟩
        rw[w08,qo9] at h5
        refine vi4 hw (fun M G w a hF hS hf K Q hK=>?_) h5
        refine q4b rfl hx hf' hen hok (fun cv hcv=>?_) (xz7 r hr) hS hF.2 hf K Q fun v G' w' k1 k2 k3=>hK v G' w' (k2.mono fun _ _=>False.elim) (k3 _ hS) (hf.grow k2) (VR.plain k1)
        rw[← hargs] at hcv
        exact uo6 hS 4 _ cv hfree hcv
       ·cases hk'
      ·cases h
     ·exact general h
   ·cases h
  ·exact viaStep2 h
 ·exact viaStep h
def Ex (e1:Exit)(F:List TV)(S:List TOb):AQ:=fun e fr s=>e=e1∧fr=dns F∧s=dnS S
theorem z90 (hC:q13 sc.P cf.C){A:Array Oper}:∀ (l:List Oper) (fr:List TV) (s:List TOb) (k:List TV→List TOb→Option β),z89 sc cf A l fr s k=some b →
  ∃ F S,k F S=some b∧AL n0 sc.P A l (dns fr) (dnS s) (Ex .normal F S)
 |[],fr,s,k,h=>⟨fr,s,h,AL_nil ⟨rfl,rfl,rfl⟩⟩
 |o::l,fr,s,k,h=>by
  have go:∀ {fr s},q85 A (dns fr) o=some true→(kd1 sc cf o.dst o.op fr s fun fr s=>z89 sc cf A l fr s k)=some b→∃ F S,k F S=some b∧AL n0 sc.P A (o::l) (dns fr) (dnS s) (Ex .normal F S):=by
   intro fr s hw h
   obtain⟨fr',s',h1,h2⟩:=kx5 hC hw h
   obtain⟨F,S,h3,h4⟩:=z90 hC l fr' s' k h1
   exact⟨F,S,h3,h2 _ h4⟩
  have skip:∀ {fr s},q85 A (dns fr) o=some false→(jf0 fr o.dst (.tup []) fun fr=>z89 sc cf A l fr s k)=some b→∃ F S,k F S=some b∧AL n0 sc.P A (o::l) (dns fr) (dnS s) (Ex .normal F S):=by
   intro fr s hw h
   rw[wd2] at h
   obtain⟨F,S,h3,h4⟩:=z90 hC l _ s k h
   rw[w08] at h4
   exact⟨F,S,h3,AL_skip hw h4⟩
  unfold z89 at h
  split at h
  ·rename_i hg
   exact go (by unfold q85;rw[hg]) h
  ·rename_i g want hg
   split at h
   ·cases h
   ·rename_i t ht
    have wanted:∀ {fr:List TV} {v:Bool},dn (fr.getD t .undef)=.bool v→q85 A (dns fr) o=some (v==want):=by
     intro fr v hv
     unfold q85
     rw[hg]
     dsimp only
     rw[show (A[g]?).bind (·.dst)=some t from ht]
     dsimp only
     rw[w66,hv]
    have nowant:∀ {fr:List TV},dn (fr.getD t .undef)=.tuple []→q85 A (dns fr) o=some false:=by
     intro fr hv
     unfold q85
     rw[hg]
     dsimp only
     rw[show (A[g]?).bind (·.dst)=some t from ht]
     dsimp only
     rw[w66,hv]
    split at h
    ·rename_i hv
     have hw:=wanted (fr:=fr) (v:=true) (by rw[hv];rfl)
     split at h
     ·rename_i hwt;subst hwt;exact go hw h
     ·rename_i hwt
      have:want=false:=by simpa using hwt
      subst this
      exact skip hw h
    ·rename_i hv
     have hw:=wanted (fr:=fr) (v:=false) (by rw[hv];rfl)
     split at h
     ·rename_i hwt;subst hwt;exact skip hw h
     ·rename_i hwt
      have:want=false:=by simpa using hwt
      subst this
      exact go hw h
    ·rename_i hv
     exact skip (nowant (by rw[hv];rfl)) h
    ·rename_i v hv
     have hsame:∀ {u:TV},dn u=.bool v→dns (fr.set t u)=dns fr:=fun hu=>qk4 (by rw[hv,hu];rfl)
     have hw:=wanted (fr:=fr) (v:=v) (by rw[hv];rfl)
     simp only[j35] at h
     cases v with
     |true =>
      simp only[cond_true] at h
      rw[← hsame (u:=.tt) rfl] at hw ⊢
      split at h
      ·rename_i hwt;subst hwt;exact go hw h
      ·rename_i hwt
       have:want=false:=by simpa using hwt
       subst this
       exact skip hw h
     |false =>
      simp only[cond_false] at h
      rw[← hsame (u:=.ff) rfl] at hw ⊢
      split at h
      ·rename_i hwt;subst hwt;exact skip hw h
      ·rename_i hwt
       have:want=false:=by simpa using hwt
       subst this
       exact go hw h
    ·cases h
end
def AV.ren (ρ:Nat→Nat):AV→AV
 |.list cs n (.own t e z)=>.list cs n (.own (ρ t) e z)
 |a=>a
def u23 (ρ:Nat→Nat)(o:Ob):Ob:={ o with cs:=o.cs.map (AV.ren ρ) }
open Classical in
noncomputable def Gh.ren (G:Gh)(M:Nat→Prop)(ρ:Nat→Nat):Gh:={ G with tg:=fun b=>if M b then ρ (G.tg b) else G.tg b }
theorem Ext.ren (G:Gh)(w:World)(M:Nat→Prop)(ρ:Nat→Nat):Ext M G w (G.ren M ρ) w where
 size:=Nat.le_refl _
 os:=rfl
 tape:=rfl
 output:=rfl
 n:=Nat.le_refl _
 live _ _ h:=h
 mu _ _:=rfl
 newobj i h1 h2:=by simp only[Gh.ren] at h2;omega
 own _ _:=rfl
 phi _ _ _:=Nat.le_refl _
 cell _ _ _ _:=rfl
 row _ _ _ _ _ _:=rfl
 keep b _ _ _ hm:=⟨rfl,rfl,by simp only[Gh.ren];rw[if_neg hm]⟩
theorem VR.ren {M:Nat→Prop}{G:Gh}{w:World}{a:AV}{v:Value}(ρ:Nat→Nat)(h:VR M G w a v):VR M (G.ren M ρ) w (a.ren ρ) v:=by
 have h0:=VR0.mono (Ext.ren G w M ρ) a v h.1
 have ho:=h.2
 cases a with
 |list cs n g =>
  cases g with
  |own t e z =>
   refine⟨?_,?_⟩
   ·simp only[AV.ren,VR0] at h0 ⊢
    obtain⟨A,cap,k1,k2,_,k4⟩:=h0
    exact⟨A,cap,k1,k2,(fun h=>by cases h),k4⟩
   ·simp only[AV.ren,qe9] at ho ⊢
    rcases ho with ho|⟨g,cap,cur,k1,k2,k3,k4,k5,k6,k7⟩
    ·exact .inl ho
    ·exact .inr ⟨g,cap,cur,k1,k2,k3,k4,k5,by simp only[Gh.ren];rw[if_pos k2,k6],k7⟩
  |_=>exact⟨h0,qe9.of_plain rfl⟩
 |_=>exact⟨h0,qe9.of_plain rfl⟩
theorem Sim.ren {M:Nat→Prop}{G:Gh}{s:List Ob}{w:World}(ρ:Nat→Nat)(h:Sim M G s w):Sim M (G.ren M ρ) (s.map (u23 ρ)) w:=by
 refine⟨by simp[Gh.ren,h.n],h.inj,h.own,?_,h.lt,?_⟩
 ·intro i o' hi hol
  rw[List.getElem?_map] at hi
  obtain⟨o,h1,rfl⟩:=q54 hi
  exact h.live i o h1 hol
 ·intro i o' hi hl
  rw[List.getElem?_map] at hi
  obtain⟨o,h1,rfl⟩:=q54 hi
  obtain⟨vs,g1,g2,g3⟩:=h.at_ i o h1 hl
  refine⟨vs,g1,by simpa[u23] using g2,fun k a v hk hv=>?_⟩
  simp only[u23,List.getElem?_map] at hk
  obtain⟨a0,h2,rfl⟩:=q54 hk
  exact(g3 k a0 v h2 hv).ren ρ
theorem Rel.ren {M:Nat→Prop}{G0:Gh}{w0:World}{fr:List AV}{s:List Ob}{a:Act}{w:World}(ρ:Nat→Nat)(h:Rel M G0 w0 fr s a w):Rel M G0 w0 (fr.map (AV.ren ρ)) (s.map (u23 ρ)) a w:=by
 obtain⟨G,h1,h2,h3⟩:=h
 refine⟨G.ren M ρ,h1.trans (Ext.ren G w M ρ) (fun _ _ h=>h),h2.ren ρ,h3.defers,by simpa using h3.size,fun t=>?_⟩
 have:=(h3.at_ t).ren ρ
 rw[List.getD_eq_getElem?_getD,List.getElem?_map]
 rw[List.getD_eq_getElem?_getD] at this
 cases hh:fr[t]? with
 |none=>rw[hh] at this;exact this
 |some x=>rw[hh] at this;exact this
theorem VR.cut {M:Nat→Prop}{G:Gh}{w:World}{n:Nat}(hn:n≤G.n){a:AV}{v:Value}(hr:a.refs n=true)(h:VR M G w a v):VR M (G.cut n) w a v:=by
 refine⟨h.1.cut hn a v hr,?_⟩
 have k2:=h.2
 unfold qe9 at *
 split
 ·rcases k2 with k2|⟨g,cap,cur,e1,e2,e3,e4,e5⟩
  ·exact .inl k2
  ·exact .inr ⟨g,cap,cur,e1,e2,e3,fun⟨j,hj,hl,he⟩=>e4 ⟨j,Nat.lt_of_lt_of_le hj hn,hl,he⟩,e5⟩
 ·trivial
theorem Rel.cut {M:Nat→Prop}{G0:Gh}{w0:World}{fr:List AV}{s s':List Ob}{a:Act}{w:World}{n:Nat}(h0:G0.n≤n)(hn:n≤s.length)(hc:jh2 n s=some s')(hf:qf0 n fr=true)(h:Rel M G0 w0 fr s a w):Rel M G0 w0 fr s' a w:=by
 obtain⟨G,h1,h2,h3⟩:=h
 have hnG:n≤G.n:=by rw[h2.n];exact hn
 refine⟨G.cut n,?_,h2.cut hnG hc,h3.defers,h3.size,fun t=>?_⟩
 ·exact { h1 with n:=h0,newobj:=fun i k1 k2=>h1.newobj i k1 (Nat.lt_of_lt_of_le k2 hnG),mu:=h1.mu,live:=h1.live,own:=h1.own,phi:=h1.phi,keep:=h1.keep,cell:=h1.cell,row:=h1.row }
 ·refine(h3.at_ t).cut hnG ?_
  rw[List.getD_eq_getElem?_getD]
  cases hh:fr[t]? with
  |none=>rfl
  |some x=>exact j51 hf hh
def q3a (ρ:Nat→Nat):TV→TV
 |.tl t xs (.own m e z)=>.tl t xs (.own (ρ m) e z)
 |.ll cs n (.own m e z)=>.ll cs n (.own (ρ m) e z)
 |v=>v
theorem vk8 (ρ:Nat→Nat)(v:TV):dn (q3a ρ v)=(dn v).ren ρ:=by
 cases v<;>try rfl
 ·rename_i t xs g;cases g<;>rfl
 ·rename_i t xs g;cases g<;>rfl
theorem k45 (ρ:Nat→Nat){a:AV}(h:a.mark=none):a.ren ρ=a:=by
 cases a<;>try rfl
 rename_i cs n g
 cases g<;>first|rfl|cases h
def rhoOf :List (Nat×Nat)→Nat→Nat
 |[],t=>t
 |(a,b)::l,t=>if t=a then b else rhoOf l t
def conv (ρ:Nat→Nat):SK→TV→Option TV
 |.asis,v=>some (q3a ρ v)
 |.int k,v=>match v with
  |.int k' n=>if k'=k then some (.int k n) else none
  |_=>none
 |.bool,v=>match asB v with
  |some b=>some (.bool b)
  |none=>none
 |.str,v=>match v with
  |.str s=>some (.str s)
  |_=>none
 |.own ty m e z,v=>if z=ty.size then
   match je3 ty e z m (q3a ρ v) with
   |some (xs,t0)=>if t0=m then some (.tl ty xs (.own m e z)) else none
   |none=>none
  else none
 |.lst ty,v=>match decV (.list ty) v with
  |some xs=>some (.tl ty xs .unk)
  |none=>none
 |.agg ty,v=>match decV ty v with
  |some x=>some (ks0 ty x)
  |none=>none
theorem AV.ren_wk (ρ:Nat→Nat)(a:AV):Wk (a.ren ρ) a:=fun G w v h=>by
 cases a<;>try exact h
 rename_i cs n g
 cases g<;>try exact h
 simp only[AV.ren,VR0] at h ⊢
 obtain⟨A,cap,k1,k2,_,k4⟩:=h
 exact⟨A,cap,k1,k2,(fun h=>by cases h),k4⟩
theorem kb3 {ρ:Nat→Nat}{k:SK}{v v':TV}(h:conv ρ k v=some v'):WkM ((dn v).ren ρ) (dn v'):=by
 cases k with
 |asis=>simp only[conv,Option.some.injEq] at h;subst h;rw[vk8];exact .refl _
 |int k =>
  simp only[conv] at h
  split at h
  ·split at h
   ·rename_i hk;subst hk;cases h;exact .refl _
   ·cases h
  ·cases h
 |bool =>
  simp only[conv] at h
  split at h
  ·rename_i b hb;cases h;rw[x74 hb];exact .refl _
  ·cases h
 |str =>
  simp only[conv] at h
  split at h
  ·cases h;exact .refl _
  ·cases h
 |own ty m e z =>
  simp only[conv] at h
  split at h
  ·rename_i hz
   split at h
   ·rename_i xs t0 ho
    split at h
    ·rename_i ht
     subst ht
     cases h
     have:=u31 hz ho
     rw[vk8] at this
     exact this
    ·cases h
   ·cases h
  ·cases h
 |lst ty =>
  simp only[conv] at h
  split at h
  ·rename_i xs hx
   cases h
   exact .of ((AV.ren_wk ρ _).trans (y12 hx)) rfl
  ·cases h
 |agg ty =>
  simp only[conv] at h
  split at h
  ·rename_i x hx
   cases h
   exact .of ((AV.ren_wk ρ _).trans (y12 hx)) (ka5 _ _)
  ·cases h
def v22 {β:Type}(ρ:Nat→Nat):List (Nat×SK)→Nat→List TV→(List TV→Option β)→Option β
 |_,_,[],k=>k []
 |[],i,_::fr,k=>v22 ρ [] (i+1) fr fun fr=>k (.undef::fr)
 |(t,sk)::ks,i,v::fr,k=>if t=i then
   match conv ρ sk v with
   |some v=>v36 v fun v=>v22 ρ ks (i+1) fr fun fr=>k (v::fr)
   |none=>none
  else v22 ρ ((t,sk)::ks) (i+1) fr fun fr=>k (.undef::fr)
inductive uf7:List AV→List AV→Prop
 |nil:uf7 [] []
 |cons {a b as bs}:WkM a b→uf7 as bs→uf7 (a::as) (b::bs)
theorem uf7.F {a b:List AV}(h:uf7 a b):WkF a b:=by
 refine⟨?_,?_⟩
 ·induction h with
  |nil=>rfl
  |cons _ _ ih=>simp[ih]
 ·induction h with
  |nil=>intro t;exact .refl _
  |cons h _ ih =>
   intro t
   cases t with
   |zero=>exact h
   |succ t=>simpa using ih t
theorem uf7.len {a b:List AV}(h:uf7 a b):b.length=a.length:=h.F.1
theorem uf7.get {a b:List AV}(h:uf7 a b):∀ (i:Nat) (y y':AV),a[i]?=some y→b[i]?=some y'→WkM y y':=by
 induction h with
 |nil=>intro i y y' h;simp at h
 |cons hh _ ih =>
  intro i y y' h h'
  cases i with
  |zero=>simp at h h';subst h;subst h';exact hh
  |succ i=>exact ih i y y' (by simpa using h) (by simpa using h')
theorem jg4 {β:Type}{ρ:Nat→Nat}{b:β}:∀ (fr:List TV) (ks:List (Nat×SK)) (i:Nat) (k:List TV→Option β),v22 ρ ks i fr k=some b →
  ∃ fr',k fr'=some b∧uf7 ((dns fr).map (AV.ren ρ)) (dns fr')
 |[],ks,i,k,h=>by unfold v22 at h;exact⟨[],h,.nil⟩
 |v::fr,[],i,k,h=>by
  unfold v22 at h
  obtain⟨fr',h1,h2⟩:=jg4 fr [] (i+1) _ h
  exact⟨_,h1,.cons (.undef _) h2⟩
 |v::fr,(t,sk)::ks,i,k,h=>by
  unfold v22 at h
  split at h
  ·split at h
   ·rename_i v' hv
    rw[zt3] at h
    obtain⟨fr',h1,h2⟩:=jg4 fr ks (i+1) _ h
    exact⟨_,h1,.cons (kb3 hv) h2⟩
   ·cases h
  ·obtain⟨fr',h1,h2⟩:=jg4 fr ((t,sk)::ks) (i+1) _ h
   exact⟨_,h1,.cons (.undef _) h2⟩
def q7y {β:Type}(ρ:Nat→Nat):List SK→List TV→(List TV→Option β)→Option β
 |[],[],k=>k []
 |sk::ks,v::vs,k=>match conv ρ sk v with
  |some v=>v36 v fun v=>q7y ρ ks vs fun vs=>k (v::vs)
  |none=>none
 |_,_,_=>none
theorem ug3 {β:Type}{ρ:Nat→Nat}{b:β}:∀ (ks:List SK) (vs:List TV) (k:List TV→Option β),q7y ρ ks vs k=some b→∃ vs',k vs'=some b∧uf7 ((dns vs).map (AV.ren ρ)) (dns vs')
 |[],[],k,h=>⟨[],h,.nil⟩
 |sk::ks,v::vs,k,h=>by
  unfold q7y at h
  split at h
  ·rename_i v' hv
   rw[zt3] at h
   obtain⟨vs',h1,h2⟩:=ug3 ks vs _ h
   exact⟨_,h1,.cons (kb3 hv) h2⟩
  ·cases h
 |[],_::_,k,h=>by simp[q7y] at h
 |_::_,[],k,h=>by simp[q7y] at h
def trenO (ρ:Nat→Nat):TOb→TOb
 |.cells cs t l=>.cells (cs.map (q3a ρ)) t l
 |o=>o
theorem q4x (ρ:Nat→Nat)(o:TOb):dnO (trenO ρ o)=u23 ρ (dnO o):=by
 cases o with
 |cells cs t l =>
  simp only[trenO,dnO,u23,qm9,List.map_map]
  congr 1
  apply List.map_congr_left
  intro v _
  exact vk8 ρ v
 |tarr ty xs t l =>
  simp only[trenO,dnO,u23]
  congr 1
  have:∀ l:List AV,(∀ a∈l,a.mark=none)→l.map (AV.ren ρ)=l:=by
   intro l
   induction l with
   |nil=>intro _;rfl
   |cons a l ih=>intro h;rw[List.map_cons,k45 ρ (h a (by simp)),ih fun b hb=>h b (by simp[hb])]
  exact(this _ (wn7 xs)).symm
def ug2 {β:Type}(ρ:Nat→Nat)(k:Option (List SK))(o:TOb)(c:TOb→Option β):Option β:=match k with
 |none=>match o with
  |.cells cs t l=>zy6 (cs.map (q3a ρ)) fun cs=>c (.cells cs t l)
  |o=>c o
 |some sk=>match o with
  |.cells cs t l=>q7y ρ sk cs fun cs=>c (.cells cs t l)
  |_=>none
theorem kw2 {β:Type}{ρ:Nat→Nat}{k:Option (List SK)}{o:TOb}{c:TOb→Option β}{b:β}(h:ug2 ρ k o c=some b):∃ o',c o'=some b∧WkO (u23 ρ (dnO o)) (dnO o'):=by
 unfold ug2 at h
 split at h
 ·cases o with
  |cells cs t l =>
   dsimp only at h
   rw[w55] at h
   exact⟨trenO ρ (.cells cs t l),h,by rw[q4x];exact .refl _⟩
  |tarr ty xs t l =>
   exact⟨trenO ρ (.tarr ty xs t l),h,by rw[q4x];exact .refl _⟩
 ·rename_i sk
  split at h
  ·rename_i cs t l
   obtain⟨vs',h1,h2⟩:=ug3 sk cs _ h
   refine⟨_,h1,fun hl=>⟨rfl,hl,?_,?_⟩⟩
   ·exact h2.len
   ·exact h2.get
  ·cases h
def xp5 {α:Type}:List (Nat×α)→Nat→Option α
 |[],_=>none
 |(a,x)::l,t=>if t=a then some x else xp5 l t
def j55 {β:Type}(ρ:Nat→Nat)(base:List (Nat×List SK)):(n:Nat)→Nat→List OK→List TOb→(List TOb→Option β)→Option β
 |n+1,i,ks,o::s,k=>ug2 ρ (xp5 base i) o fun o=>j55 ρ base n (i+1) ks s fun s=>k (o::s)
 |0,i,.same::ks,o::s,k=>ug2 ρ none o fun o=>j55 ρ base 0 (i+1) ks s fun s=>k (o::s)
 |0,i,.cells sk::ks,o::s,k=>ug2 ρ (some sk) o fun o=>j55 ρ base 0 (i+1) ks s fun s=>k (o::s)
 |0,_,[],_,k=>k []
 |_,_,_,[],_=>none
theorem vj9 {β:Type}{ρ:Nat→Nat}{base:List (Nat×List SK)}{b:β}:∀ (s:List TOb) (n i:Nat) (ks:List OK) (k:List TOb→Option β),j55 ρ base n i ks s k=some b →
  ∃ s',k s'=some b∧s'.length≤s.length∧n≤s'.length∧WkS (((dnS s).map (u23 ρ)).take s'.length) (dnS s')
 |[],n,i,ks,k,h=>by
  cases n with
  |zero=>cases ks with
   |nil=>unfold j55 at h;exact⟨[],h,by simp,by simp,by exact .refl _⟩
   |cons a ks=>cases a<;>(unfold j55 at h;cases h)
  |succ n=>unfold j55 at h;cases h
 |o::s,n,i,ks,k,h=>by
  have fin:∀ {kk:Option (List SK)} {n':Nat} {ks':List OK},ug2 ρ kk o (fun o=>j55 ρ base n' (i+1) ks' s fun s=>k (o::s))=some b→∃ s',k s'=some b∧s'.length≤(o::s).length∧n'+1≤s'.length∧WkS (((dnS (o::s)).map (u23 ρ)).take s'.length) (dnS s'):=by
   intro kk n' ks' h
   obtain⟨o',h1,h2⟩:=kw2 h
   obtain⟨s',h3,h4,h5,h6⟩:=vj9 s n' (i+1) ks' _ h1
   refine⟨o'::s',h3,by simpa using h4,by simpa using h5,?_⟩
   show WkS (u23 ρ (dnO o)::((dnS s).map (u23 ρ)).take s'.length) (dnO o'::dnS s')
   refine⟨by simpa using h6.1,fun j a a' ha ha'=>?_⟩
   cases j with
   |zero=>simp at ha ha';subst ha;subst ha';exact h2
   |succ j=>exact h6.2 j a a' (by simpa using ha) (by simpa using ha')
  cases n with
  |zero=>cases ks with
   |nil=>unfold j55 at h;exact⟨[],h,by simp,by simp,by simp;exact .refl _⟩
   |cons a ks =>
    cases a with
    |same =>
     unfold j55 at h
     obtain⟨s',h1,h2,h3,h4⟩:=fin h
     exact⟨s',h1,h2,by omega,h4⟩
    |cells sk =>
     unfold j55 at h
     obtain⟨s',h1,h2,h3,h4⟩:=fin h
     exact⟨s',h1,h2,by omega,h4⟩
  |succ n=>unfold j55 at h;exact fin h
mutual
def j08 (n:Nat):TV→Bool
 |.ref i _=>decide (i<n)
 |.arr i _=>decide (i<n)
 |.ap i _ _ _=>decide (i<n)
 |.ll cs _ _=>zv7 n cs
 |.ep cs _=>zv7 n cs
 |.func _ cs=>zv7 n cs
 |.agg cs=>zv7 n cs
 |.tup cs=>zv7 n cs
 |.undef|.int ..|.bool _|.tt|.ff|.str _|.nilp|.tl ..|.nilf=>true
def zv7 (n:Nat):List TV→Bool
 |[]=>true
 |a::as=>j08 n a&&zv7 n as
end
theorem xm3 {n:Nat}:∀ {l:List AV},(∀ a∈l,a.refs n=true)→qf0 n l=true
 |[],_=>rfl
 |a::l,h=>by
  have h1:=h a List.mem_cons_self
  have h2:qf0 n l=true:=xm3 fun b hb=>h b (List.mem_cons_of_mem _ hb)
  simp only[qf0,h1,h2,Bool.and_self]
mutual
theorem jz7 (n:Nat):∀ (t:Ty) (x:El t),∀ a∈q50 t x,a.refs n=true
 |.int _,_,a,h=>by simp only[q50,List.mem_singleton] at h;subst h;rfl
 |.bool,_,a,h=>by simp only[q50,List.mem_singleton] at h;subst h;rfl
 |.str,_,a,h=>by simp only[q50,List.mem_singleton] at h;subst h;rfl
 |.list e,xs,a,h=>by
  simp only[q50,List.mem_singleton] at h
  subst h
  simp only[AV.refs]
  refine xm3 fun b hb=>?_
  obtain⟨x,_,hx⟩:=List.mem_flatMap.1 hb
  exact jz7 n e x b hx
 |.st fs,x,a,h=>by simp only[q50] at h;exact x83 n fs x a h
theorem x83 (n:Nat):∀ (ts:List Ty) (x:Els ts),∀ a∈qb9 ts x,a.refs n=true
 |[],_,a,h=>by simp[qb9] at h
 |t::ts,x,a,h=>by
  simp only[qb9,List.mem_append] at h
  rcases h with h|h
  ·exact jz7 n t x.1 a h
  ·exact x83 n ts x.2 a h
end
theorem vo7 (n:Nat){t:Ty}(xs:List (El t)):qf0 n (xs.flatMap (q50 t))=true:=by
 refine xm3 fun b hb=>?_
 obtain⟨x,_,hx⟩:=List.mem_flatMap.1 hb
 exact jz7 n t x b hx
mutual
theorem jp0 {n:Nat}:∀ (v:TV),j08 n v=true→(dn v).refs n=true
 |.undef,_=>rfl
 |.int ..,_=>rfl
 |.bool _,_=>rfl
 |.tt,_=>rfl
 |.ff,_=>rfl
 |.str _,_=>rfl
 |.nilp,_=>rfl
 |.nilf,_=>rfl
 |.tl t xs g,_=>vo7 n xs
 |.ref i _,h=>by simpa only[j08,dn,AV.refs] using h
 |.arr i _,h=>by simpa only[j08,dn,AV.refs] using h
 |.ap i _ _ _,h=>by simpa only[j08,dn,AV.refs] using h
 |.ll cs _ _,h=>by simp only[j08] at h;exact qq2 cs h
 |.ep cs _,h=>by simp only[j08] at h;exact qq2 cs h
 |.func _ cs,h=>by simp only[j08] at h;exact qq2 cs h
 |.agg cs,h=>by simp only[j08] at h;exact qq2 cs h
 |.tup cs,h=>by simp only[j08] at h;exact qq2 cs h
theorem qq2 {n:Nat}:∀ (l:List TV),zv7 n l=true→qf0 n (dns l)=true
 |[],_=>rfl
 |a::l,h=>by
  simp only[zv7,Bool.and_eq_true] at h
  simp only[dns,qf0,jp0 a h.1,qq2 l h.2,Bool.and_self]
end
def v86 (n:Nat):List TOb→Bool
 |[]=>true
 |.cells cs _ l::s=>(!l||zv7 n cs)&&v86 n s
 |.tarr ..::s=>v86 n s
theorem jo3 {n:Nat}:∀ (s:List TOb),v86 n s=true→(dnS s).all (fun o=>!o.live||qf0 n o.cs)=true
 |[],_=>rfl
 |.cells cs t l::s,h=>by
  simp only[v86,Bool.and_eq_true,Bool.or_eq_true] at h
  have ih:=jo3 s h.2
  simp only[dnS,List.map_cons,List.all_cons,Bool.and_eq_true,Bool.or_eq_true] at ih ⊢
  refine⟨?_,ih⟩
  rcases h.1 with h1|h1
  ·exact .inl h1
  ·exact .inr (qq2 cs h1)
 |.tarr ty xs t l::s,h=>by
  simp only[v86] at h
  have ih:=jo3 s h
  simp only[dnS,List.map_cons,List.all_cons,Bool.and_eq_true,Bool.or_eq_true] at ih ⊢
  exact⟨.inr (vo7 n xs),ih⟩
def xp6 :List (Nat×SK)→List TV→List (Nat×Nat)
 |[],_=>[]
 |(t,.own _ m _ _)::ks,fr=>match wd3 (fr.getD t .undef) with
  |some m'=>(m',m)::xp6 ks fr
  |none=>xp6 ks fr
 |_::ks,fr=>xp6 ks fr
def ke6 :List SK→List TV→List (Nat×Nat)
 |.own _ m _ _::ks,v::vs=>match wd3 v with
  |some m'=>(m',m)::ke6 ks vs
  |none=>ke6 ks vs
 |_::ks,_::vs=>ke6 ks vs
 |_,_=>[]
def ke7 :List OK→List TOb→List (Nat×Nat)
 |.cells sk::ks,.cells cs _ _::s=>ke6 sk cs++ke7 ks s
 |_::ks,_::s=>ke7 ks s
 |_,_=>[]
def ke5 :List (Nat×List SK)→List TOb→List (Nat×Nat)
 |[],_=>[]
 |(i,sk)::l,s=>match s[i]? with
  |some (.cells cs _ _)=>ke6 sk cs++ke5 l s
  |_=>ke5 l s
def kb1 {β:Type}(n0:Nat)(lh:LH)(fr:List TV)(s:List TOb)(k:List TV→List TOb→Option β):Option β :=
 let ρ:=rhoOf (xp6 lh.keep fr++ke5 lh.base s++ke7 lh.objs (s.drop n0))
 v22 ρ lh.keep 0 fr fun fr=>j55 ρ lh.base n0 0 lh.objs s fun s=>match zv7 s.length fr&&v86 s.length s with
  |true=>k fr s
  |false=>none
theorem xm5 {β:Type}{n0:Nat}{lh:LH}{fr:List TV}{s:List TOb}{k:List TV→List TOb→Option β}{b:β}(h:kb1 n0 lh fr s k=some b):
  ∃ fr' s',k fr' s'=some b∧∀ M G0 w0 a w,G0.n≤n0→Rel M G0 w0 (dns fr) (dnS s) a w→Rel M G0 w0 (dns fr') (dnS s') a w:=by
 unfold kb1 at h
 dsimp only at h
 obtain⟨fr',h1,h2⟩:=jg4 _ _ _ _ h
 obtain⟨s',h3,h4,h5,h6⟩:=vj9 _ _ _ _ _ h1
 split at h3
 ·rename_i hb
  rw[Bool.and_eq_true] at hb
  refine⟨fr',s',h3,fun M G0 w0 a w hn hr=>?_⟩
  have r1:=hr.ren (rhoOf (xp6 lh.keep fr++ke5 lh.base s++ke7 lh.objs (s.drop n0)))
  -- the store: first what is kept gets its forms, then the rest goes
  let ρ:=rhoOf (xp6 lh.keep fr++ke5 lh.base s++ke7 lh.objs (s.drop n0))
  have hw:WkS ((dnS s).map (u23 ρ)) (dnS s'++((dnS s).map (u23 ρ)).drop s'.length):=by
   have e:(dnS s).map (u23 ρ)=((dnS s).map (u23 ρ)).take s'.length++((dnS s).map (u23 ρ)).drop s'.length:=(List.take_append_drop _ _).symm
   have hl:(((dnS s).map (u23 ρ)).take s'.length).length=(dnS s').length:=h6.1.symm
   refine⟨by simp[q84];omega,fun i o o' ho ho'=>?_⟩
   rw[e] at ho
   rcases Nat.lt_or_ge i (dnS s').length with hi|hi
   ·rw[List.getElem?_append_left (by rw[hl];exact hi)] at ho
    rw[List.getElem?_append_left hi] at ho'
    exact h6.2 i o o' ho ho'
   ·rw[List.getElem?_append_right (by rw[hl];exact hi),hl] at ho
    rw[List.getElem?_append_right hi,ho] at ho'
    cases ho'
    exact .refl _
  obtain⟨G,g1,g2,g3⟩:=r1
  have r2:Rel M G0 w0 (dns fr') (dnS s'++((dnS s).map (u23 ρ)).drop s'.length) a w:=⟨G,g1,g2.weaken hw,g3.weaken h2.F⟩
  refine r2.cut (n:=s'.length) (by omega) (by simp[q84]) ?_ (qq2 _ hb.1)
  unfold jh2
  have e2:(dnS s'++((dnS s).map (u23 ρ)).drop s'.length).take s'.length=dnS s':=by
   rw[List.take_append_of_le_length (by rw[q84];exact Nat.le_refl _),List.take_of_length_le (by rw[q84];exact Nat.le_refl _)]
  rw[e2,if_pos (jo3 _ hb.2)]
 ·cases h3
def frz1 {β:Type}(t:Nat)(fr:List TV)(s:List TOb)(k:List TV→List TOb→Option β):Option β:=match fr.getD t .undef with
 |.arr i n=>match s[i]? with
  |some (.tarr ty xs ot true)=>cond (Nat.beq n xs.length) (uo5 fr t (.tl ty xs .unk) fun fr=>z70 (s.set i (.tarr ty xs ot false)) fun s=>k fr s) none
  |_=>none
 |_=>none
def frzK {β:Type}(id:Nat):List (Nat×Nat)→List TV→List TOb→(List TV→List TOb→Option β)→Option β
 |[],fr,s,k=>k fr s
 |(j,t)::l,fr,s,k=>match Nat.beq j id with
  |true=>frz1 t fr s fun fr s=>frzK id l fr s k
  |false=>frzK id l fr s k
theorem frz1_spec {β:Type}{t:Nat}{fr:List TV}{s:List TOb}{k:List TV→List TOb→Option β}{b:β}(h:frz1 t fr s k=some b):∃ fr' s',k fr' s'=some b∧∀ M G0 w0 a w,Rel M G0 w0 (dns fr) (dnS s) a w→Rel M G0 w0 (dns fr') (dnS s') a w:=by
 unfold frz1 at h
 split at h
 ·rename_i i n ht
  split at h
  ·rename_i ty xs ot hs
   have h':Nat.beq n xs.length=true∧uo5 fr t (.tl ty xs .unk) (fun fr=>z70 (s.set i (.tarr ty xs ot false)) fun s=>k fr s)=some b:=by
    cases hb:Nat.beq n xs.length with
    |true=>rw[hb] at h;exact⟨rfl,h⟩
    |false=>rw[hb] at h;cases h
   obtain⟨h1,h2⟩:=h'
   have h1:=Nat.eq_of_beq_eq_true h1
   rw[j35,qu6] at h2
   refine⟨_,_,h2,fun M G0 w0 a w hr=>?_⟩
   have:=Rel.freeze (t:=t) (i:=i) (n:=n) (ob:=⟨xs.flatMap (q50 ty),ot,true⟩) (by rw[qk0,hs];rfl) rfl (by rw[w66,ht];rfl) hr
   rw[ut1,vk7]
   simp only[vr6 _ (wn7 xs)] at this
   rw[h1] at this
   exact this
  ·cases h
 ·cases h
theorem vo8 {β:Type}{id:Nat}{b:β}:∀ (l:List (Nat×Nat)) (fr:List TV) (s:List TOb) (k:List TV→List TOb→Option β),frzK id l fr s k=some b→∃ fr' s',k fr' s'=some b∧∀ M G0 w0 a w,Rel M G0 w0 (dns fr) (dnS s) a w→Rel M G0 w0 (dns fr') (dnS s') a w
 |[],fr,s,k,h=>⟨fr,s,h,fun _ _ _ _ _ h=>h⟩
 |(j,t)::l,fr,s,k,h=>by
  simp only[frzK] at h
  split at h
  ·obtain⟨fr1,s1,h1,h2⟩:=frz1_spec h
   obtain⟨fr2,s2,h3,h4⟩:=vo8 l fr1 s1 k h1
   exact⟨fr2,s2,h3,fun M G0 w0 a w hr=>h4 M G0 w0 a w (h2 M G0 w0 a w hr)⟩
  ·exact vo8 l fr s k h
def jr0 :Code→Nat
 |.seq a b=>jr0 a+jr0 b
 |.cond _ a b=>jr0 a+jr0 b
 |.block _ c=>jr0 c
 |.loop c=>jr0 c+1
 |.rangeFunc _ _ a b=>jr0 a+jr0 b
 |.scope c=>jr0 c
 |_=>0
def q55 {β:Type}(body:(List TV→List TOb→Option β)→List TV→List TOb→Option β):Nat→List TV→List TOb→Option β
 |0,_,_=>none
 |n+1,fr,s=>body (q55 body n) fr s
abbrev vi6 :=Sc→Cfg→(β:Type)→Nat→Array Oper→List TV→List TOb→(List TV→List TOb→Option β)→Option β
def jmp {β:Type}:Nat→(List TV→List TOb→Option β)→List TV→List TOb→Option β
 |0,_,_,_=>none
 |_+1,R,fr,s=>R fr s
def jnK {β:Type}(N n0 id:Nat):List (Nat×LH)→List TV→List TOb→(List TV→List TOb→Option β)→Option β
 |[],fr,s,R=>R fr s
 |(j,lh)::l,fr,s,R=>match Nat.beq j id with
  |true=>kb1 n0 lh fr s fun fr s=>jmp N R fr s
  |false=>jnK N n0 id l fr s R
theorem q5j {β:Type}{N n0 id:Nat}{R:List TV→List TOb→Option β}{b:β}:∀ (l:List (Nat×LH)) (fr:List TV) (s:List TOb),jnK N n0 id l fr s R=some b→∃ fr' s',R fr' s'=some b∧∀ M G0 w0 a w,G0.n≤n0→Rel M G0 w0 (dns fr) (dnS s) a w→Rel M G0 w0 (dns fr') (dnS s') a w
 |[],fr,s,h=>⟨fr,s,h,fun _ _ _ _ _ _ h=>h⟩
 |(j,lh)::l,fr,s,h=>by
  simp only[jnK] at h
  split at h
  ·obtain⟨fr1,s1,h1,h2⟩:=xm5 h
   cases N with
   |zero=>simp[jmp] at h1
   |succ N=>exact⟨fr1,s1,h1,h2⟩
  ·exact q5j l fr s h
def regK {β:Type}(D:vi6)(sc:Sc)(cf:Cfg)(id:Nat)(A:Array Oper)(dr:Bool)(k:Exit→List TV→List TOb→Option β)(fr:List TV)(s:List TOb):Option β:=frzK id sc.frz fr s fun fr s=>match dr with
 |true=>D sc cf β id A fr s fun fr s=>k .normal fr s
 |false=>z89 sc cf A A.toList fr s fun fr s=>k .normal fr s
def regC {β:Type}(D:vi6)(sc:Sc)(cf:Cfg)(c:Code)(k:Exit→List TV→List TOb→Option β):List TV→List TOb→Option β:=match c with
 |.region id A dr=>regK D sc cf id A dr k
 |_=>fun _ _=>none
def run (D:vi6){β:Type}(sc:Sc)(cf:Cfg):Code→List LH→List TV→List TOb→(Exit→List TV→List TOb→Option β)→Option β
 |.skip,_,fr,s,k=>k .normal fr s
 |.seq a b,hs,fr,s,k=>run D sc cf a hs fr s fun e fr s=>match e with
  |.normal=>run D sc cf b (hs.drop (jr0 a)) fr s k
  |e=>k e fr s
 |.cond c a b,hs,fr,s,k=>match q87 fr c with
  |.tt=>run D sc cf a hs fr s k
  |.ff=>run D sc cf b (hs.drop (jr0 a)) fr s k
  |.bool t=>match c with
   |.tmp i=>cond t (uo5 fr i .tt fun fr=>run D sc cf a hs fr s k) (uo5 fr i .ff fun fr=>run D sc cf b (hs.drop (jr0 a)) fr s k)
   |_=>none
  |_=>none
 |.block id c,hs,fr,s,k=>run D sc cf c hs fr s fun e fr s=>match e with
  |.exit i=>if i=id then k .normal fr s else k (.exit i) fr s
  |e=>k e fr s
 |.exit id,_,fr,s,k=>k (.exit id) fr s
 |.ret,_,fr,s,k=>k .ret fr s
 |.region id A dr,_,fr,s,k=>jnK cf.N cf.n0 id sc.joins fr s (regK D sc cf id A dr k)
 |.loop c,h::hs,fr,s,k=>kb1 cf.n0 h fr s fun fr s=>q55 (fun K fr s=>run D sc cf c hs fr s fun e fr s=>match e with
   |.normal=>kb1 cf.n0 h fr s fun fr s=>K fr s
   |e=>k e fr s) cf.N fr s
 |_,_,_,_,_=>none
section
variable {n0:Nat} {P:Program} {Q:AQ}
def AWL (n0:Nat)(P:Program)(c:Code)(fr:List AV)(s:List Ob)(Q:AQ):Prop :=
 ∀ M G0 w0,Pre P n0 M G0 w0→∀ a w,Rel M G0 w0 fr s a w→∀ b k cs,∃ e a' w',QC M G0 w0 Q e a' w'∧Arrives P (lone (b.at a (.code c::.inLoop c::k)) cs w) b k cs e a' w'
theorem AWL.loop {c:Code}{fr:List AV}{s:List Ob}(h:AWL n0 P c fr s Q):AW n0 P (.loop c) fr s Q:=by
 intro M G0 w0 hM a w hr b k cs
 obtain⟨e,a',w',hq,harr⟩:=h M G0 w0 hM a w hr b k cs
 exact⟨e,a',w',hq,.of_steps (.one step_loop) harr⟩
theorem uf4 {c:Code}{fr:List AV}{s:List Ob}(h:AW n0 P c fr s (aThen (fun fr' s'=>∃ fr2 s2,(∀ M G0 w0 a w,G0.n≤n0→Rel M G0 w0 fr' s' a w→Rel M G0 w0 fr2 s2 a w)∧AWL n0 P c fr2 s2 Q) Q)):AWL n0 P c fr s Q:=by
 intro M G0 w0 hM a w hr b k cs
 obtain⟨e,a₁,w₁,⟨he,fr1,s1,hq,hr1⟩,harr⟩:=h M G0 w0 hM a w hr b (.inLoop c::k) cs
 cases e with
 |normal =>
  obtain⟨fr2,s2,hcv,hnext⟩:=hq
  obtain⟨e₂,a₂,w₂,hq₂,harr₂⟩:=hnext M G0 w0 hM a₁ w₁ (hcv M G0 w0 a₁ w₁ hM.2 hr1) b k cs
  exact⟨e₂,a₂,w₂,hq₂,.of_steps (Steps.trans harr (.one step_inLoop)) harr₂⟩
 |exit id=>exact⟨_,a₁,w₁,⟨he,fr1,s1,hq,hr1⟩,.pass (x:=.inLoop c) rfl (fun _ _=>.inl (by simp)) harr⟩
 |goto l=>exact⟨_,a₁,w₁,⟨he,fr1,s1,hq,hr1⟩,.pass (x:=.inLoop c) rfl (fun _ _=>.inl (by simp)) harr⟩
 |ret=>exact⟨_,a₁,w₁,⟨he,fr1,s1,hq,hr1⟩,.pass (x:=.inLoop c) rfl (fun _ _=>.inl (by simp)) harr⟩
 |panic ch=>exact he.elim
 |outgrown=>exact he.elim
theorem AW_conv {c:Code}{fr fr2:List AV}{s s2:List Ob}(hcv:∀ M G0 w0 a w,G0.n≤n0→Rel M G0 w0 fr s a w→Rel M G0 w0 fr2 s2 a w)(h:AW n0 P c fr2 s2 Q):AW n0 P c fr s Q :=
 fun M G0 w0 hM a w hr=>h M G0 w0 hM a w (hcv M G0 w0 a w hM.2 hr)
end
def vi5 (D:vi6):Prop:=∀ (sc:Sc) (cf:Cfg) (β:Type) (id:Nat) (A:Array Oper) (fr:List TV) (s:List TOb) (k:List TV→List TOb→Option β) (b:β),q13 sc.P cf.C →
 D sc cf β id A fr s k=some b→∃ F S,k F S=some b∧AW cf.n0 sc.P (.region id A true) (dns fr) (dnS s) (Ex .normal F S)
theorem wq3 {D:vi6}(hD:vi5 D){β:Type}{sc:Sc}{cf:Cfg}(hC:q13 sc.P cf.C){b:β}:∀ (c:Code) (hs:List LH) (fr:List TV) (s:List TOb) (k:Exit→List TV→List TOb→Option β),run D sc cf c hs fr s k=some b →
  ∃ e F S,k e F S=some b∧AW cf.n0 sc.P c (dns fr) (dnS s) (Ex e F S)
 |.skip,hs,fr,s,k,h=>⟨.normal,fr,s,h,AW_skip ⟨rfl,rfl,rfl⟩⟩
 |.exit id,hs,fr,s,k,h=>⟨.exit id,fr,s,h,AW_exit ⟨rfl,rfl,rfl⟩⟩
 |.ret,hs,fr,s,k,h=>⟨.ret,fr,s,h,AW_ret ⟨rfl,rfl,rfl⟩⟩
 |.seq x y,hs,fr,s,k,h=>by
  simp only[run] at h
  obtain⟨e,F,S,h1,h2⟩:=wq3 hD hC x hs fr s _ h
  cases e with
  |normal =>
   obtain⟨e2,F2,S2,h3,h4⟩:=wq3 hD hC y _ F S k h1
   refine⟨e2,F2,S2,h3,AW_seq (h2.mono ?_)⟩
   rintro e fr s ⟨rfl,rfl,rfl⟩
   exact h4
  |_ =>
   refine⟨_,F,S,h1,AW_seq (h2.mono ?_)⟩
   rintro e fr s ⟨rfl,rfl,rfl⟩
   exact⟨rfl,rfl,rfl⟩
 |.cond c x y,hs,fr,s,k,h=>by
  simp only[run] at h
  split at h
  ·rename_i hc
   obtain⟨e,F,S,h1,h2⟩:=wq3 hD hC x hs fr s k h
   exact⟨e,F,S,h1,uq0 (t:=true) (by rw[← q64,hc];rfl) h2⟩
  ·rename_i hc
   obtain⟨e,F,S,h1,h2⟩:=wq3 hD hC y _ fr s k h
   exact⟨e,F,S,h1,uq0 (t:=false) (by rw[← q64,hc];rfl) h2⟩
  ·rename_i t hc
   split at h
   ·rename_i i
    have hc':fr.getD i .undef=.bool t:=hc
    simp only[j35] at h
    cases t with
    |true =>
     obtain⟨e,F,S,h1,this⟩:=wq3 hD hC x hs _ s k h
     rw[qk4 (by rw[hc'];rfl)] at this
     exact⟨e,F,S,h1,uq0 (t:=true) (by rw[← q64,hc];rfl) this⟩
    |false =>
     obtain⟨e,F,S,h1,this⟩:=wq3 hD hC y _ _ s k h
     rw[qk4 (by rw[hc'];rfl)] at this
     exact⟨e,F,S,h1,uq0 (t:=false) (by rw[← q64,hc];rfl) this⟩
   ·cases h
  ·cases h
 |.block id c,hs,fr,s,k,h=>by
  simp only[run] at h
  obtain⟨e,F,S,h1,h2⟩:=wq3 hD hC c hs fr s _ h
  cases e with
  |exit i =>
   dsimp only at h1
   split at h1
   ·rename_i hi
    refine⟨.normal,F,S,h1,up9 (h2.mono ?_)⟩
    rintro e fr s ⟨rfl,rfl,rfl⟩
    simp only[q4l]
    rw[if_pos hi]
    exact⟨rfl,rfl,rfl⟩
   ·rename_i hi
    refine⟨.exit i,F,S,h1,up9 (h2.mono ?_)⟩
    rintro e fr s ⟨rfl,rfl,rfl⟩
    simp only[q4l]
    rw[if_neg hi]
    exact⟨rfl,rfl,rfl⟩
  |_ =>
   refine⟨_,F,S,h1,up9 (h2.mono ?_)⟩
   rintro e fr s ⟨rfl,rfl,rfl⟩
   exact⟨rfl,rfl,rfl⟩
 |.region id A dr,hs,fr,s,k,h=>by
  simp only[run] at h
  obtain⟨fr,s,h,hcv0⟩:=q5j _ _ _ h
  unfold regK at h
  obtain⟨fr,s,h,hcv⟩:=vo8 _ _ _ _ h
  suffices hh:∃ e F S,k e F S=some b∧AW cf.n0 sc.P (.region id A dr) (dns fr) (dnS s) (Ex e F S) by
   obtain⟨e,F,S,g1,g2⟩:=hh
   exact⟨e,F,S,g1,AW_conv (fun M G0 w0 a w hn hr=>hcv M G0 w0 a w (hcv0 M G0 w0 a w hn hr)) g2⟩
  cases dr with
  |false =>
   obtain⟨F,S,h1,h2⟩:=z90 (n0:=cf.n0) hC (A:=A) A.toList fr s _ h
   refine⟨.normal,F,S,h1,?_⟩
   have h2:=AW_region (id:=id) (l:=A.toList) (by simpa using h2)
   simpa using h2
  |true =>
   obtain⟨F,S,h1,h2⟩:=hD sc cf β id A fr s _ b hC h
   exact⟨.normal,F,S,h1,h2⟩
 |.loop c,[],fr,s,k,h=>by simp only[run] at h;cases h
 |.loop c,lh::hs,fr,s,k,h=>by
  simp only[run] at h
  obtain⟨fr1,s1,h1,hcv⟩:=xm5 h
  have key:∀ (n:Nat) (tfr:List TV) (ts:List TOb),q55 (fun K fr s=>run D sc cf c hs fr s fun e fr s=>match e with
    |.normal=>kb1 cf.n0 lh fr s fun fr s=>K fr s
    |e=>k e fr s) n tfr ts=some b→∃ e F S,k e F S=some b∧AWL cf.n0 sc.P c (dns tfr) (dnS ts) (Ex e F S):=by
   intro n
   induction n with
   |zero=>intro tfr ts hn;simp only[q55] at hn;cases hn
   |succ n ih =>
    intro tfr ts hn
    simp only[q55] at hn
    obtain⟨e,F,S,h2,h3⟩:=wq3 hD hC c hs tfr ts _ hn
    cases e with
    |normal =>
     obtain⟨fr2,s2,h4,hcv2⟩:=xm5 h2
     obtain⟨e2,F2,S2,h5,h6⟩:=ih fr2 s2 h4
     refine⟨e2,F2,S2,h5,uf4 (h3.mono ?_)⟩
     rintro e fr s ⟨rfl,rfl,rfl⟩
     exact⟨dns fr2,dnS s2,hcv2,h6⟩
    |_ =>
     refine⟨_,F,S,h2,uf4 (h3.mono ?_)⟩
     rintro e fr s ⟨rfl,rfl,rfl⟩
     exact⟨rfl,rfl,rfl⟩
  obtain⟨e,F,S,h5,h6⟩:=key cf.N fr1 s1 h1
  exact⟨e,F,S,h5,AW_conv hcv h6.loop⟩
 |.rangeFunc ..,hs,fr,s,k,h=>by simp only[run] at h;cases h
 |.scope _,hs,fr,s,k,h=>by simp only[run] at h;cases h
 |.label _,hs,fr,s,k,h=>by simp only[run] at h;cases h
 |.goto _,hs,fr,s,k,h=>by simp only[run] at h;cases h
 |.refuse _,hs,fr,s,k,h=>by simp only[run] at h;cases h
def k49 (P:Program)(fr:List TV)(s:List TOb):ResultVar→Option TV
 |.tmp t=>some (qq3 (fr.getD t .undef))
 |.cell a t=>match fr.getD a .undef with
  |.ref i o=>match s[i]? with
   |some (.cells cs _ l)=>if l=true then (w1v P t cs o).map qq3 else none
   |_=>none
  |_=>none
def xi3 {β:Type}(P:Program)(fr:List TV)(s:List TOb):List ResultVar→(List TV→Option β)→Option β
 |[],k=>k []
 |r::rs,k=>match k49 P fr s r with
  |some v=>v36 v fun v=>xi3 P fr s rs fun l=>k (v::l)
  |none=>none
def k48 :List TV→TV
 |[a]=>a
 |l=>.tup l
theorem kr6 {P:Program}{fr:List TV}{s:List TOb}{r:ResultVar}{v:TV}(h:k49 P fr s r=some v):∃ a,zp3 (dns fr) (dnS s) P r=some a∧a.plain=dn v:=by
 cases r with
 |tmp t =>
  simp only[k49,Option.some.injEq] at h
  subst h
  exact⟨_,rfl,by rw[w66,qo9]⟩
 |cell a t =>
  simp only[k49] at h
  split at h
  ·rename_i i o ha
   split at h
   ·rename_i cs ot l hs
    split at h
    ·rename_i hl
     obtain⟨u,h1,rfl⟩:=q54 h
     have ha':(dns fr).getD a .undef=.ref i o:=by rw[w66,ha];rfl
     refine⟨dn u,?_,by rw[qo9]⟩
     simp only[zp3,ha',qk0,hs,Option.map_some,dnO]
     rw[if_pos hl]
     exact yk5 h1
    ·cases h
   ·cases h
  ·cases h
theorem xi4 {β:Type}{P:Program}{fr:List TV}{s:List TOb}{b:β}:∀ (rs:List ResultVar) (k:List TV→Option β),xi3 P fr s rs k=some b →
  ∃ l avs,k l=some b∧rs.mapM (zp3 (dns fr) (dnS s) P)=some avs∧avs.map AV.plain=dns l
 |[],k,h=>⟨[],[],h,by simp,rfl⟩
 |r::rs,k,h=>by
  unfold xi3 at h
  split at h
  ·rename_i v hv
   rw[zt3] at h
   obtain⟨a,h1,h2⟩:=kr6 hv
   obtain⟨l,avs,h3,h4,h5⟩:=xi4 rs _ h
   refine⟨v::l,a::avs,h3,?_,by simp only[List.map_cons,dns,h2,h5]⟩
   simp only[List.mapM_cons,h1,h4]
   rfl
  ·cases h
def fin {β:Type}(P:Program)(n0:Nat)(rs:List ResultVar)(k:TV→List TOb→Option β)(e:Exit)(fr:List TV)(s:List TOb):Option β :=
 match e with
 |.normal|.ret=>if n0≤s.length then xi3 P fr s rs fun l=>match j08 n0 (k48 l)&&v86 n0 (s.take n0) with
   |true=>k (k48 l) (s.take n0)
   |false=>k (k48 l) s
  else none
 |_=>none
structure FH where
 loops:List LH
 arrs:List Nat
 heads:List (Nat×HDat)
 frz:List (Nat×Nat)
 wrap:Bool:=false
 rd:List Nat:=[]
 joins:List (Nat×LH):=[]
def q20 (D:vi6)(P:Program)(N:Nat)(C:q46)(fh:FH)(fn:Func)(c:Code)(β:Type)(args:List TV)(s:List TOb)(k:TV→List TOb→Option β):Option β :=
 zy6 (args++List.replicate (fn.ntmps-args.length) (.tup [])) fun fr =>
  run D ⟨P,fh.arrs,fh.heads,fh.frz,fh.wrap,fh.rd,fh.joins⟩ ⟨N,C,s.length⟩ c fh.loops fr s (fin P s.length fn.results.toList k)
theorem u87 (args:List TV)(n:Nat):dns (args++List.replicate n (.tup []))=dns args++List.replicate n (.tuple []):=by
 rw[y13,qm9 (List.replicate n (.tup []))]
 simp[dn,dns]
def retE :Exit→Prop
 |.normal|.ret=>True
 |_=>False
def resT :List AV→AV
 |[a]=>a.plain
 |l=>.tuple (l.map AV.plain)
theorem ui2 {avs:List AV}{l:List TV}(h:avs.map AV.plain=dns l):resT avs=dn (k48 l):=by
 match avs,l,h with
 |[],[],_=>rfl
 |[a],[v],h=>simp only[List.map_cons,List.map_nil,dns,List.cons.injEq,and_true] at h;exact h
 |a::a2::avs,v::v2::l,h=>show AV.tuple _=.tuple _;rw[h]
 |[],_::_,h=>simp[dns] at h
 |_::_,[],h=>simp[dns] at h
 |[_],_::_::_,h=>simp[dns] at h
 |_::_::_,[_],h=>simp[dns] at h
theorem fin_spec {β : Type} {P : Program} {n0 : Nat} {rs : List ResultVar} {k : TV → List TOb → Option β} {e : Exit} {fr : List TV} {s : List TOb} {b : β} (h : fin P n0 rs k e fr s = some b) :
    retE e ∧ ∃ r s' m avs, k r s' = some b ∧ rs.mapM (zp3 (dns fr) (dnS s) P) = some avs ∧ resT avs = dn r ∧
      n0 ≤ m ∧ m ≤ s.length ∧ ((dn r).refs m = true ∧ jh2 m (dnS s) = some (dnS s') ∨ m = s.length ∧ s' = s) := by
  have main : ∀ {k'}, n0 ≤ s.length → (xi3 P fr s rs k' = some b) → (k' = fun l => match j08 n0 (k48 l) && v86 n0 (s.take n0) with
    | true => k (k48 l) (s.take n0)
    | false => k (k48 l) s) → ∃ r s' m avs, k r s' = some b ∧ rs.mapM (zp3 (dns fr) (dnS s) P) = some avs ∧ resT avs = dn r ∧
      n0 ≤ m ∧ m ≤ s.length ∧ ((dn r).refs m = true ∧ jh2 m (dnS s) = some (dnS s') ∨ m = s.length ∧ s' = s) := by
    intro k' hn h hk
    obtain ⟨l, avs, h1, h2, h3⟩ := xi4 rs _ h
    subst hk
    dsimp only at h1
    split at h1
    · rename_i hb
      rw [Bool.and_eq_true] at hb
      refine ⟨k48 l, s.take n0, n0, avs, h1, h2, ui2 h3, Nat.le_refl _, hn, .inl ⟨jp0 _ hb.1, ?_⟩⟩
      unfold jh2
      have e2 : (dnS s).take n0 = dnS (s.take n0) := by simp [dnS, List.map_take]
      rw [e2, if_pos (jo3 _ hb.2)]
    · exact ⟨k48 l, s, s.length, avs, h1, h2, ui2 h3, hn, Nat.le_refl _, .inr ⟨rfl, rfl⟩⟩
  cases e <;> simp only [fin] at h <;> first
    | (split at h
       · rename_i hn; exact ⟨trivial, main hn h rfl⟩
       · cases h)
    | cases h
theorem wz3 {D:vi6}(hD:vi5 D){P:Program}{N:Nat}{C:q46}(hC:q13 P C){fh:FH}{f:FuncId}{fn:Func}{c:Code}(hf:P.funcs[f]?=some fn)(hb:fn.body=some c)
  {β:Type} {args:List TV} {s:List TOb} {k:TV→List TOb→Option β} {b:β} (hm:∀ a∈args,wd3 a=none) (h:q20 D P N C fh fn c β args s k=some b) :
  ∃ r s',Ok P f (dns args) (dnS s) (dn r) (dnS s')∧k r s'=some b:=by
 unfold q20 at h
 rw[w55] at h
 obtain⟨e1,F,S,hfin,hw⟩:=wq3 hD (sc:=⟨P,fh.arrs,fh.heads,fh.frz,fh.wrap,fh.rd,fh.joins⟩) (cf:=⟨N,C,s.length⟩) hC c fh.loops _ s _ h
 dsimp only at hw hfin
 obtain⟨he,r,s',m,avs,hk,hmm,hr,hm1,hm2,hcut⟩:=fin_spec hfin
 refine⟨r,s',?_,hk⟩
 intro M G w cargs hS hG hargs
 have hlen2:=hargs.length
 have hget:∀ (k:Nat) (x:AV) (v:Value),(dns args)[k]?=some x→cargs[k]?=some v→VR0 G w x v:=by
  intro k x v hx hv
  obtain⟨u,h1,h2⟩:=hargs.get k x hx
  rw[hv] at h1
  cases h1
  exact h2
 have hla:(dns args).length=args.length:=qc0 args
 have hfr:FR (va5 M G (dnS s) w) G w (dns (args++List.replicate (fn.ntmps-args.length) (.tup []))) { tmps:=cargs.toArray++Array.replicate (fn.ntmps-cargs.toArray.size) undef,defers:=[] }:=by
  rw[u87]
  refine⟨rfl,by simp[hlen2,hla],fun t=>?_⟩
  rw[List.getD_eq_getElem?_getD,Array.getD_eq_getD_getElem?]
  rcases Nat.lt_or_ge t (dns args).length with h1|h1
  ·rw[List.getElem?_append_left h1,Array.getElem?_append_left (by simp;omega)]
   rw[List.getElem?_eq_getElem h1]
   have h2:t<cargs.length:=by omega
   rw[List.getElem?_toArray,List.getElem?_eq_getElem h2]
   refine⟨hget t _ _ (List.getElem?_eq_getElem h1) (List.getElem?_eq_getElem h2),qe9.of_plain ?_⟩
   simp only[Option.getD_some]
   have hx:(dns args)[t]?=some ((dns args)[t]):=List.getElem?_eq_getElem h1
   rw[ut0] at hx
   obtain⟨v,h3,h4⟩:=q54 hx
   rw[← h4,za3]
   exact hm v (List.mem_of_getElem? h3)
  ·rw[List.getElem?_append_right h1,Array.getElem?_append_right (by simp;omega)]
   rw[List.getElem?_replicate,Array.getElem?_replicate]
   simp only[List.size_toArray,hlen2,hla]
   split
   ·exact⟨by simp only[Option.getD_some,VR0];exact⟨[],rfl,by simp only[q61]⟩,qe9.of_plain rfl⟩
   ·exact⟨by simp only[Option.getD_none,VR0],qe9.of_plain rfl⟩
 refine calls_of_wp hf hb (wp_mono (hw (va5 M G (dnS s) w) G w ⟨⟨fun b hb=>.inl hb,hG⟩,by rw[hS.n,q84];exact Nat.le_refl _⟩ _ w ⟨G,Ext.refl _ _ _,hS.toS,hfr⟩) ?_)
 rintro e a w' ⟨_,fr,s1,⟨rfl,rfl,rfl⟩,G',hE,hS',hf'⟩
 have hres:∃ v,(results fn a.tmps).run P w'=.ok v w'∧VR0 G' w' (dn r) v:=by
  obtain⟨vs,k1,k2⟩:=v41 hS' hf' fn.results.toList avs hmm
  have hrun:(results fn a.tmps).run P w'=.ok (if h:vs.toArray.size=1 then vs.toArray[0] else .tuple vs.toArray) w':=by
   have e0:results fn a.tmps=(do
    let vs ← fn.results.mapM (vj8 a.tmps)
    pure (if h:vs.size=1 then vs[0] else .tuple vs)):=rfl
   rw[e0,Sem.run_bind]
   have e1:(fn.results.mapM (vj8 a.tmps)).run P w'=.ok vs.toArray w':=by
    rw[show fn.results=fn.results.toList.toArray by simp,List.mapM_toArray]
    simp only[Sem.run_map,k1,Result.andThen_ok]
   rw[e1]
   rfl
  rw[hrun,← hr]
  match avs,vs,k2 with
  |[x],vs,k2 =>
   simp only[q61] at k2
   obtain⟨v,vs',rfl,k3,rfl⟩:=k2
   exact⟨v,rfl,k3.plain⟩
  |[],vs,k2 =>
   simp only[q61] at k2
   subst k2
   exact⟨_,rfl,by simp only[resT,VR0];exact⟨[],rfl,by simp only[List.map_nil,q61]⟩⟩
  |x::y::l,vs,k2 =>
   have hl:=k2.length
   rw[dif_neg (by simp[hl])]
   exact⟨_,rfl,by simp only[resT,VR0];exact⟨vs,rfl,k2.plain⟩⟩
 obtain⟨v,k1,k2⟩:=hres
 have hGn:G.n=s.length:=by rw[hS.n,q84]
 have hGn':G'.n=S.length:=by rw[hS'.n,q84]
 have hfin2:∃ v' G'',Ending.returned v=.returned v'∧VR0 G'' w' (dn r) v'∧Sim (va5 M G (dnS s) w) G'' (dnS s') w'∧Ext (va5 M G (dnS s) w) G w G'' w':=by
  rcases hcut with⟨c1,c2⟩|⟨c1,rfl⟩
  ·refine⟨v,G'.cut m,rfl,k2.cut (by omega) _ v c1,hS'.cut (by omega) c2,?_⟩
   exact { hE with n:=by simp only[Gh.cut];omega,newobj:=fun i k1 k2=>hE.newobj i k1 (by simp only[Gh.cut] at k2;omega),mu:=hE.mu,live:=hE.live,own:=hE.own,phi:=hE.phi,keep:=hE.keep,cell:=hE.cell,row:=hE.row }
  ·exact⟨v,G',rfl,k2,hS',hE⟩
 cases e
 case normal=>exact⟨hf'.defers,v,k1,hfin2⟩
 case ret=>exact⟨hf'.defers,v,k1,hfin2⟩
 all_goals exact False.elim he
def qa6 {β:Type}(D:vi6)(sc:Sc)(cf:Cfg)(b:Code)(hs:List LH)(k:Exit→List TV→List TOb→Option β):Exit→List TV→List TOb→Option β:=fun e fr s=>match e with
 |.normal=>run D sc cf b hs fr s k
 |e=>k e fr s
def qd6 {β:Type}(id:Nat)(k:Exit→List TV→List TOb→Option β):Exit→List TV→List TOb→Option β:=fun e fr s=>match e with
 |.exit i=>if i=id then k .normal fr s else k (.exit i) fr s
 |e=>k e fr s
def qy2 {β:Type}(D:vi6)(sc:Sc)(cf:Cfg)(c:Code)(h:LH)(hs:List LH)(k:Exit→List TV→List TOb→Option β)(K:List TV→List TOb→Option β)(fr:List TV)(s:List TOb):Option β :=
 run D sc cf c hs fr s fun e fr s=>match e with
   |.normal=>kb1 cf.n0 h fr s fun fr s=>K fr s
   |e=>k e fr s
def xp4 {β:Type}(cf:Cfg)(h:LH)(k:Exit→List TV→List TOb→Option β)(K:List TV→List TOb→Option β):Exit→List TV→List TOb→Option β:=fun e fr s=>match e with
 |.normal=>kb1 cf.n0 h fr s fun fr s=>K fr s
 |e=>k e fr s
def seqL :Code→Code|.seq a _=>a|_=>.skip
def seqR :Code→Code|.seq _ b=>b|_=>.skip
def conL :Code→Code|.cond _ a _=>a|_=>.skip
def conR :Code→Code|.cond _ _ b=>b|_=>.skip
def blkB :Code→Code|.block _ c=>c|_=>.skip
def lopB :Code→Code|.loop c=>c|_=>.skip
def q80 {α β:Type}(body:(α→Option β)→α→Option β):Nat→α→Option β
 |0,_=>none
 |n+1,a=>body (q80 body n) a
theorem q36 {α β:Type}{body:(List TV→List TOb→Option β)→List TV→List TOb→Option β}{nb:(α→Option β)→α→Option β}(E:α→List TV)(S:α→List TOb)
  (H:∀ K a,body K (E a) (S a)=nb (fun a'=>K (E a') (S a')) a):∀ n a,q55 body n (E a) (S a)=q80 nb n a
 |0,a=>rfl
 |n+1,a=>by
  simp only[q55,q80]
  rw[H]
  congr 1
  funext a'
  exact q36 E S H n a'
def decA :(ts:List Ty)→List TV→Option (Els ts)
 |[],[]=>some ()
 |t::ts,v::vs=>match decV t v with
  |some x=>match decA ts vs with
   |some xs=>some (x,xs)
   |none=>none
  |none=>none
 |_,_=>none
def qb7 :(ts:List Ty)→Els ts→List TV
 |[],_=>[]
 |t::ts,x=>ks0 t x.1::qb7 ts x.2
def RT :List Ty→Type
 |[t]=>El t
 |ts=>Els ts
def decR :(ts:List Ty)→TV→Option (RT ts)
 |[t],v=>decV t v
 |[],.tup []=>some ()
 |t::u::ts,.tup vs=>decA (t::u::ts) vs
 |_,_=>none
def encR :(ts:List Ty)→RT ts→TV
 |[t],x=>ks0 t x
 |[],_=>.tup []
 |t::u::ts,x=>.tup (qb7 (t::u::ts) x)
end Go.Proofs.YtgicljncknbgcaaGreat.Abs
