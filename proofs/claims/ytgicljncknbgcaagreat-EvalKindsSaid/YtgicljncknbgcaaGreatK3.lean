/- EvalKinds: a node's answer is of its kind. -/
import Derived.Test.YtgicljncknbgcaaGreatK2
set_option linter.unusedVariables false
set_option linter.unusedSimpArgs false
set_option linter.unusedSectionVars false
namespace Go.Proofs.YtgicljncknbgcaaGreat.Abs
open Go
theorem kindF_max (l:List q00)(k:Int):k≤l.foldl (fun k v=>jl7 k v.1) k∧(∀ v∈l,v.1≤l.foldl (fun k v=>jl7 k v.1) k)∧(l.foldl (fun k v=>jl7 k v.1) k=k∨∃ v∈l,v.1=l.foldl (fun k v=>jl7 k v.1) k):=by
 induction l generalizing k with
 |nil=>exact⟨Int.le_refl _,by simp,.inl rfl⟩
 |cons v l ih =>
  obtain⟨h1,h2,h3⟩:=ih (jl7 k v.1)
  simp only[List.foldl_cons]
  generalize l.foldl (fun k v=>jl7 k v.1) (jl7 k v.1)=r at *
  have hm:k≤jl7 k v.1∧v.1≤jl7 k v.1∧(jl7 k v.1=k∨jl7 k v.1=v.1):=by unfold jl7;split<;>omega
  refine⟨by omega,fun w hw=>?_,?_⟩
  ·rcases List.mem_cons.1 hw with rfl|hw
   ·omega
   ·exact h2 w hw
  ·rcases h3 with h3|⟨w,hw,h3⟩
   ·rcases hm.2.2 with h4|h4
    ·exact .inl (by omega)
    ·exact .inr ⟨v,by simp,by omega⟩
   ·exact .inr ⟨w,by simp[hw],h3⟩
section
variable {op kind:Int} {ks:List Int} {k:q35}
structure KidsA (ks:List Int) (k:q35):Prop where
 len:k.1.length=ks.length
 at_:∀ (j:Nat) (h:j<ks.length),qa8 ks[j] (w24 k j)
theorem op_cases {op:Int}(h4:4≤op)(h26:op≤26)(h19:op≠19)(h20:op≠20):op=4∨op=5∨op=6∨op=7∨op=8∨op=9∨op=10∨op=11∨op=12∨op=13∨op=14∨op=15∨op=16∨op=17∨op=18∨op=21∨op=22∨op=23∨op=24∨op=25∨op=26:=by
 obtain⟨n,rfl⟩:∃ n:Nat,op=n+4:=⟨(op-4).toNat,by omega⟩
 omega
set_option maxHeartbeats 4000000 in
theorem KA_op (hf:FitN op ks.length)(h4:4≤op)(h19:op≠19)(h20:op≠20)(hk:KidsA ks k)(hP:yu9 op ks kind):qa8 kind (opF op k):=by
 obtain⟨f1,f2,f3,f4,f5,f6,f7,f8⟩:=hf
 obtain⟨hl,hk⟩:=hk
 obtain⟨p1,p2,p3,p4,p5,p6,p7,p8,p9⟩:=hP
 have k0:∀ {a:Int} {l:List Int},ks=a::l→qa8 a (w24 k 0):=fun e=>by subst e;exact hk 0 (by simp)
 have k1:∀ {a b:Int} {l:List Int},ks=a::b::l→qa8 b (w24 k 1):=fun e=>by subst e;exact hk 1 (by simp)
 have k2:∀ {a b c:Int} {l:List Int},ks=a::b::c::l→qa8 c (w24 k 2):=fun e=>by subst e;exact hk 2 (by simp)
 have one:(ks.length:Int)=1→∃ a,ks=[a]:=fun h=>List.length_eq_one_iff.1 (by omega)
 have two:(ks.length:Int)=2→∃ a b,ks=[a,b]:=fun h=>by
  match ks,(show ks.length=2 by omega) with
  |[a,b],_=>exact⟨a,b,rfl⟩
 have num:13≤op→op≤16→∀ g h:Int→Int→Int×Int×Unit,(∀ a b,Er (g a b))→(∀ a b,Er (h a b))→qa8 kind (j99 (w24 k 0) (w24 k 1) fun a b=>z93 (doS g h a b)):=fun l1 l2 g h hg hh=>by
  obtain⟨a,b,rfl⟩:=two (by omega)
  obtain⟨q1,q2,q3,q4⟩:=p4 l1 (by omega)
  have qa:=q1 a (by simp)
  have qb:=q1 b (by simp)
  simp only[List.mem_cons,List.not_mem_nil,or_false] at q4
  exact .left2 (k0 rfl) (k1 rfl) fun hu hv=>.told (.do hg hh hu.2 hv.2 hu.1.rng.1 hv.1.rng.1 ⟨qa.1,qa.2,qb.1,qb.2,q2,q3,q4⟩)
 have same:(13≤op∧op≤20)→∀ a,ks=[a]→a≤2∧(a=kind∨a≤0):=fun h a e=>by
  subst e
  obtain⟨q1,q2,q3,q4⟩:=p4 h.1 h.2
  have:=q1 a (by simp)
  simp only[List.mem_cons,List.not_mem_nil,or_false] at q4
  omega
 have ho:=op_cases h4 f2 h19 h20
 rcases ho with rfl|rfl|rfl|rfl|rfl|rfl|rfl|rfl|rfl|rfl|rfl|rfl|rfl|rfl|rfl|rfl|rfl|rfl|rfl|rfl|rfl
 ·obtain⟨a,b,rfl⟩:=two (by omega)
  obtain⟨rfl,q⟩:=p1 (by omega)
  exact qa8.both (e:=1) (f:=anyV) (k0 rfl) (k1 rfl) (q a (by simp)) (q b (by simp)) fun u v _ _=>.not _
 ·obtain⟨a,b,rfl⟩:=two (by omega)
  obtain⟨rfl,q⟩:=p1 (by omega)
  exact qa8.both (e:=0) (f:=allV) (k0 rfl) (k1 rfl) (q a (by simp)) (q b (by simp)) fun u v hu hv=>OfK.allS _ _ ⟨.truth true,.inl rfl⟩ fun w hw=>by
   simp only[List.mem_cons,List.not_mem_nil,or_false] at hw
   rcases hw with rfl|rfl
   ·exact hu
   ·exact hv
 ·obtain⟨a,rfl⟩:=one (by omega)
  obtain⟨rfl,q⟩:=p1 (by omega)
  have hx:=k0 rfl
  show qa8 4 (notA (w24 k 0))
  unfold notA
  rw[hx.tr (q a (by simp))]
  split
  ·exact .V (.not _)
  ·rename_i e;exact hx.bad e
 ·obtain⟨a,b,rfl⟩:=two (by omega)
  obtain⟨rfl,q⟩:=p2 (by omega)
  exact qa8.left2 (F:=eqF k.2.1 true) (k0 rfl) (k1 rfl) fun hu hv=>.eq hu hv (q a b rfl)
 ·obtain⟨a,b,rfl⟩:=two (by omega)
  obtain⟨rfl,q⟩:=p2 (by omega)
  exact qa8.left2 (F:=eqF k.2.1 false) (k0 rfl) (k1 rfl) fun hu hv=>.eq hu hv (q a b rfl)
 ·obtain⟨a,b,rfl⟩:=two (by omega)
  obtain⟨rfl,q⟩:=p3 (by omega) (by omega)
  exact qa8.left2 (F:=u74 fun c=>decide (c<0)) (k0 rfl) (k1 rfl) fun hu hv=>.ord hu hv (q a b rfl)
 ·obtain⟨a,b,rfl⟩:=two (by omega)
  obtain⟨rfl,q⟩:=p3 (by omega) (by omega)
  exact qa8.left2 (F:=u74 fun c=>decide (c≤0)) (k0 rfl) (k1 rfl) fun hu hv=>.ord hu hv (q a b rfl)
 ·obtain⟨a,b,rfl⟩:=two (by omega)
  obtain⟨rfl,q⟩:=p3 (by omega) (by omega)
  exact qa8.left2 (F:=u74 fun c=>decide (c>0)) (k0 rfl) (k1 rfl) fun hu hv=>.ord hu hv (q a b rfl)
 ·obtain⟨a,b,rfl⟩:=two (by omega)
  obtain⟨rfl,q⟩:=p3 (by omega) (by omega)
  exact qa8.left2 (F:=u74 fun c=>decide (c≥0)) (k0 rfl) (k1 rfl) fun hu hv=>.ord hu hv (q a b rfl)
 ·exact num (by omega) (by omega) gAdd gAdd (fun _ _=>.intE _) (fun _ _=>.intE _)
 ·exact num (by omega) (by omega) gSub gSub (fun _ _=>.intE _) (fun _ _=>.intE _)
 ·exact num (by omega) (by omega) gMul hMul (fun _ _=>.intE _) (fun _ _=>.intE _)
 ·exact num (by omega) (by omega) gQuo hQuo (fun _ _=>.ite) (fun _ _=>.ite)
 ·obtain⟨a,rfl⟩:=one (by omega)
  obtain⟨s1,s2⟩:=same (by omega) a rfl
  exact qa8.up0 (qa8.left1 (k:=a) (F:=fun a=>z93 (negV a)) (k0 rfl) fun hu=>.told (.neg hu s1)) s2
 ·obtain⟨a,rfl⟩:=one (by omega)
  obtain⟨s1,s2⟩:=same (by omega) a rfl
  refine qa8.up0 (qa8.left1 (k:=a) (F:=absF) (k0 rfl) fun hu=>?_) s2
  unfold absF
  have h1:=hu.1.rng
  have h2:=hu.2
  rw[q5a (by omega),if_neg (by simp)]
  split
  ·exact .told (.neg hu s1)
  ·exact .V hu
 ·obtain⟨a,b,rfl⟩:=two (by omega)
  obtain⟨rfl,q⟩:=p5 rfl
  refine qa8.left2 (F:=fun a b=>wl2 1 [a,b] (z93 ((1,(q8q a.2.1 b.2.1).1,[],()),(q8q a.2.1 b.2.1).2.1,()))) (k0 rfl) (k1 rfl) fun hu hv=>.only (fun w hw=>?_) (.told ⟨fun e=>?_,fun _=>⟨.num (.inl rfl),.inl rfl⟩⟩)
  ·have qa:=q a (by simp)
   have qb:=q b (by simp)
   have:=hu.2
   have:=hv.2
   simp only[List.mem_cons,List.not_mem_nil,or_false] at hw
   rcases hw with rfl|rfl<;>omega
  ·have:Er (q8q (w24 k 0).1.2.1 (w24 k 1).1.2.1):=.ite
   rcases this with h|h|h
   ·exact absurd h e
   ·exact .inl h
   ·exact .inr h
 ·obtain⟨a,rfl⟩:=one (by omega)
  obtain⟨rfl,q⟩:=p6 rfl
  refine qa8.left1 (F:=fun a=>wl2 3 [a] (za0 (1,(a.2.2.1.length:Int),[],()))) (k0 rfl) fun hu=>.only (fun w hw=>?_) (.V ⟨.num (.inl rfl),.inl rfl⟩)
  rw[List.mem_singleton.1 hw]
  have:=hu.2;have:=q a (by simp);omega
 ·obtain⟨a,rfl⟩:=one (by omega)
  obtain⟨rfl,q⟩:=p7 rfl
  refine qa8.left1 (F:=fun a=>wl2 3 [a] (za0 (3,0,a.2.2.1.map Abs.Upper.upB,()))) (k0 rfl) fun hu=>?_
  have h2:=hu.2
  have qa:=q a (by simp)
  by_cases h0:(w24 k 0).1.1=0
  ·unfold wl2
   rw[q5a (by omega),if_neg (by simp),if_pos (by unfold jy5;simp[h0])]
   exact .nul
  ·refine .only (fun w hw=>?_) (.V ⟨.inr (.inr (.inl ⟨rfl,rfl,upB_text ?_⟩)),.inl rfl⟩)
   ·rw[List.mem_singleton.1 hw];omega
   ·have:=hu.1
    unfold k86 at this
    have h3:(w24 k 0).1.1=3:=by omega
    rcases this with h|h|h|h|h
    ·exact absurd h.1 h0
    ·exact absurd h.1 (by omega)
    ·exact h.2.2
    ·exact absurd h.1 (by omega)
    ·exact absurd h.1 (by omega)
 ·obtain⟨a,b,rfl⟩:=two (by omega)
  obtain⟨rfl,q⟩:=p8 (by omega)
  refine qa8.left2 (F:=fun a b=>wl2 3 [a,b] (za0 (we6 (Lib.contains a.2.2.1 b.2.2.1)))) (k0 rfl) (k1 rfl) fun hu hv=>.only (fun w hw=>?_) (.truth _)
  have qa:=q a (by simp)
  have qb:=q b (by simp)
  have:=hu.2
  have:=hv.2
  simp only[List.mem_cons,List.not_mem_nil,or_false] at hw
  rcases hw with rfl|rfl<;>omega
 ·obtain⟨a,b,rfl⟩:=two (by omega)
  obtain⟨rfl,q⟩:=p8 (by omega)
  refine qa8.left2 (F:=fun a b=>wl2 3 [a,b] (za0 (we6 (headF a.2.2.1 b.2.2.1)))) (k0 rfl) (k1 rfl) fun hu hv=>.only (fun w hw=>?_) (.truth _)
  have qa:=q a (by simp)
  have qb:=q b (by simp)
  have:=hu.2
  have:=hv.2
  simp only[List.mem_cons,List.not_mem_nil,or_false] at hw
  rcases hw with rfl|rfl<;>omega
 ·match ks,(show ks.length=3 by omega) with
  |[a,b,c],_ =>
   obtain⟨q1,q2,q3⟩:=p9 rfl a b c rfl
   have e:kind=b∨kind=c:=by rw[q3];split<;>simp
   refine qa8.if_ (k0 rfl) q1 (qa8.up (k1 rfl) ?_) (qa8.up (k2 rfl) ?_)
   ·show b=kind∨b=0
    by_cases h0:b=0
    ·exact .inr h0
    ·rw[if_neg h0] at q3;exact .inl q3.symm
   ·show c=kind∨c=0
    by_cases h0:b=0
    ·rw[if_pos h0] at q3;exact .inl q3.symm
    ·rw[if_neg h0] at q3;omega
set_option maxHeartbeats 1000000 in
theorem KA_most (hf:FitN op ks.length)(ho:op=19∨op=20)(hk:KidsA ks k)(hP:yu9 op ks kind){a:q03}(hm:uf6 k a):qa8 kind a:=by
 obtain⟨f1,f2,f3,f4,f5,f6,f7,f8⟩:=hf
 obtain⟨hl,hk⟩:=hk
 obtain⟨p1,p2,p3,p4,_⟩:=hP
 obtain⟨q1,q2,q3,q4⟩:=p4 (by omega) (by omega)
 have all:∀ x∈k.1,∃ (j:Nat) (h:j<ks.length),x=w24 k j:=fun x hx=>by
  obtain⟨j,hj,rfl⟩:=List.getElem_of_mem hx
  refine⟨j,by omega,?_⟩
  unfold w24
  rw[List.getD_eq_getElem?_getD,List.getElem?_eq_getElem hj]
  rfl
 rcases hm.ok with⟨h1,h2⟩|⟨h1,r,hr,rfl⟩
 ·obtain⟨j,hj,rfl⟩:=all a h1
  exact(hk j hj).bad h2
 have val:∀ x∈k.1,∃ (j:Nat) (h:j<ks.length),OfK ks[j] x.1:=fun x hx=>by
  obtain⟨j,hj,e⟩:=all x hx
  exact⟨j,hj,by have:=(hk j hj).ok (by rw[← e];exact h1 x hx);rw[← e] at this;exact this⟩
 refine .told ⟨fun e=>?_,fun e=>?_⟩
 ·rcases (hr.err e).2 with h|⟨h,v,hv,hb⟩
  ·exact .inl h
  ·exfalso
   obtain⟨x,hx,rfl⟩:=List.mem_map.1 hv
   obtain⟨j,hj,g1,g2⟩:=val x hx
   have:=q1 _ (List.getElem_mem hj)
   have:=g1.rng
   omega
 ·rcases hr.ok e with⟨h2,_⟩|⟨h2,h3,_,h5⟩
  ·rw[h2];exact⟨.none,.inr rfl⟩
  ·obtain⟨m1,m2,m3⟩:=kindF_max (k.1.map (·.1)) 1
   have hr1:r.1.1=xd5 (k.1.map (·.1)):=h3
   unfold xd5 at hr1
   generalize (k.1.map (·.1)).foldl (fun k v=>jl7 k v.1) 1=m at *
   have ub:m≤kind:=by
    rcases m3 with h|⟨v,hv,h⟩
    ·have h0:0<k.1.length:=by have:=f8 (by omega);omega
     have hx:k.1[0]∈k.1:=List.getElem_mem h0
     obtain⟨j,hj,g1,g2⟩:=val _ hx
     have:=q1 _ (List.getElem_mem hj)
     have:=h2 _ (List.mem_map.2 ⟨_,hx,rfl⟩)
     omega
    ·obtain⟨x,hx,rfl⟩:=List.mem_map.1 hv
     obtain⟨j,hj,g1,g2⟩:=val x hx
     have:=q1 _ (List.getElem_mem hj)
     have:=h2 _ hv
     omega
   have lb:kind≤m:=by
    rcases q4 with h|h
    ·omega
    ·obtain⟨j,hj,rfl⟩:=List.getElem_of_mem h
     have hjk:j<k.1.length:=by omega
     have hx:k.1[j]∈k.1:=List.getElem_mem hjk
     have e1:w24 k j=k.1[j]:=by
      unfold w24
      rw[List.getD_eq_getElem?_getD,List.getElem?_eq_getElem hjk]
      rfl
     have g:=((hk j hj).ok (by rw[e1];exact h1 _ hx)).2
     rw[e1] at g
     have hv:(k.1[j]).1∈k.1.map (·.1):=List.mem_map.2 ⟨_,hx,rfl⟩
     have:=h2 _ hv
     have:=m2 _ hv
     omega
   have hkind:kind=1∨kind=2:=by omega
   have hm':r.1.1=kind:=by omega
   exact⟨.inr (.inl ⟨by omega,h5⟩),.inl hm'⟩
end
theorem qa8.held {k:Int}{v:q00}(h:OfK k v):qa8 k (uv4 v):=by
 unfold uv4
 rw[if_pos ((wz8 v).2 h.1)]
 exact .V h
def q7q (sV:List q86)(vars:List q30):Prop:=vars.length=sV.length∧∀ (j:Nat) (h1:j<vars.length) (h2:j<sV.length),vars[j].1=sV[j].1∧OfK sV[j].2.1 vars[j].2.1
theorem q7q.find :∀ {sV:List q86} {vars:List q30},q7q sV vars→∀ name,(uu9 sV name).2.1=true→∃ b,vars.find? (fun b=>b.1==name)=some b∧OfK (uu9 sV name).1 b.2.1
 |[],_,_,name,h=>by unfold uu9 at h;simp at h
 |x::sV,[],h,name,_=>by have:=h.1;simp at this
 |x::sV,b::vars,⟨hl,h⟩,name,hf=>by
  have h0:=h 0 (by simp) (by simp)
  simp only[List.getElem_cons_zero] at h0
  unfold uu9 at hf ⊢
  rw[List.find?_cons] at hf ⊢
  rw[List.find?_cons,h0.1]
  cases hc:x.1==name with
  |true=>exact⟨b,rfl,h0.2⟩
  |false =>
   rw[hc] at hf
   exact q7q.find (sV:=sV) (vars:=vars) ⟨by simpa using hl,fun j h1 h2=>by have:=h (j+1) (by simpa using h1) (by simpa using h2);simpa using this⟩ name hf
section
variable {N B:Nat} {t:List q15} {self:q00} {vars:List q30} {sV:List q86} {sS:Int} {kd:Int→Int}
set_option maxHeartbeats 1000000 in
theorem ug0 (h:EvOK N B t self vars)(ht:uq8 t t.length)(hlit:∀ x∈t,vh2 x.2.1=true)(hP:∀ (i:Nat) (h:i<t.length),k92 sV sS t[i] (t[i].2.2.2.1.map kd) (kd i))(hself:OfK sS self)(hvars:q7q sV vars):
  ∀ i,i≤t.length→∀ l,k87 N self vars t i=some l→∀ (j:Nat) (h:j<l.length),qa8 (kd j) l[j]
 |0,_,l,hl,j,hj=>by cases hl;simp at hj
 |i+1,hi,l,hl,j,hj=>by
  obtain⟨l0,h1,h2,h3⟩:=yh1 h i (by omega)
  have ih:=ug0 h ht hlit hP hself hvars i (by omega) l0 h1
  simp only[k87,h1,Option.bind_some] at hl
  rw[Option.map_eq_some_iff] at hl
  obtain⟨a,h4,rfl⟩:=hl
  by_cases hjl:j<l0.length
  ·rw[List.getElem_append_left hjl];exact ih j hjl
  have ej:j=i:=by simp at hj;omega
  subst ej
  rw[List.getElem_append_right (by omega)]
  simp only[h2,Nat.sub_self,List.getElem_cons_zero]
  have hjt:j<t.length:=by omega
  obtain⟨hf,hkr⟩:=ht j hjt hjt
  obtain⟨np1,np2⟩:=hP j hjt
  have hm:=List.getElem_mem hjt
  obtain⟨g1,g2⟩:=h.nodes _ hm
  rw[qc8 hjt] at h4
  have hl1:=hlit _ hm
  generalize t[j]=n at *
  unfold ky3 at h4
  by_cases hb:ke2 n=true
  ·rw[if_pos hb] at h4
   cases h4
   have hb:n.1=1∨n.1=2∨n.1=3:=of_decide_eq_true hb
   unfold uv8
   obtain⟨q1,q2,q3⟩:=np1
   by_cases o1:n.1=1
   ·rw[if_pos o1,q1 o1]
    exact .held ⟨(wz8 _).1 hl1,.inl rfl⟩
   by_cases o3:n.1=3
   ·rw[if_neg o1,if_pos o3,(q3 o3).1]
    exact .held hself
   ·rw[if_neg o1,if_neg o3]
    obtain⟨r1,r2,_⟩:=q2 (by omega)
    obtain⟨b,e1,e2⟩:=hvars.find _ r1
    unfold uw0
    rw[e1,r2]
    exact .held e2
  ·rw[if_neg hb] at h4
   have ho:4≤n.1:=by
    have:¬ (n.1=1∨n.1=2∨n.1=3):=fun h=>hb (decide_eq_true h)
    have:=hf.1
    omega
   have hP:=np2 ho
   have hf':FitN n.1 (n.2.2.2.1.map kd).length:=by rw[List.length_map];exact hf
   have hk:KidsA (n.2.2.2.1.map kd) (ua2 t l0 j n.2.2.2.1):=by
    refine⟨by simp[ua2],fun q hq=>?_⟩
    have hq':q<n.2.2.2.1.length:=by simpa using hq
    have hr:=hkr _ (List.getElem_mem hq')
    have e:w24 (ua2 t l0 j n.2.2.2.1) q=q8m l0 j n.2.2.2.1[q]:=by
     unfold w24 ua2
     rw[List.getD_eq_getElem?_getD,List.getElem?_map,List.getElem?_eq_getElem hq']
     rfl
    rw[e,List.getElem_map]
    unfold q8m
    rw[if_pos (by omega)]
    generalize n.2.2.2.1[q]=x at *
    obtain⟨m,rfl⟩:∃ m:Nat,x=m:=⟨x.toNat,by omega⟩
    rw[qc8 (by omega)]
    exact ih m (by omega)
   by_cases o:n.1=19∨n.1=20
   ·have hk2:=vg2 h h3 (i:=j) (by omega) g2
    obtain⟨a',h5,h6⟩:=uh1 h.fuel hk2 _ o
    rw[h4] at h5
    cases h5
    exact KA_most hf' o hk hP h6
   ·have hk2:=vg2 h h3 (i:=j) (by omega) g2
    rw[opO_is h.fuel hk2 h.bound _ (fun e=>o (.inl e)) (fun e=>o (.inr e))] at h4
    cases h4
    exact KA_op hf' ho (fun e=>o (.inl e)) (fun e=>o (.inr e)) hk hP
theorem q8d (h:EvOK N B t self vars)(hlen:t.length≤60)(h0:0<t.length)(hvl:vars.length≤100000)(ht:uq8 t t.length)(hlit:∀ x∈t,vh2 x.2.1=true)(hP:∀ (i:Nat) (h:i<t.length),k92 sV sS t[i] (t[i].2.2.2.1.map kd) (kd i))(hself:OfK sS self)(hvars:q7q sV vars):
  Tells (qt4 N t self vars) fun r=>qa8 (kd ((t.length:Int)-1)) r∧VOK B r.1:=by
 refine(q8g h (by omega) hvl).mono ?_
 rintro r ⟨l,h1,h2,rfl⟩
 have hl:=ur4 h1
 have hk:=ug0 h ht hlit hP hself hvars t.length (by omega) l h1 (t.length-1) (by omega)
 have e:l.getLastD a0=l[t.length-1]'(by omega):=by
  rw[List.getLastD_eq_getLast?,List.getLast?_eq_getElem?,List.getElem?_eq_getElem (by omega)]
  simp only[hl,Option.getD_some]
 rw[e]
 refine⟨?_,h2 _ (List.getElem_mem _)⟩
 have e2:(t.length:Int)-1=((t.length-1:Nat):Int):=by omega
 rw[e2]
 exact hk
end
theorem may_r2 {N:Nat}(hN:1000≤N){v:q00}(h:v.2.2.1.length≤500):zl0 N v=some (vh2 v):=by
 obtain⟨r,h1,h2⟩:=x63 N v (by omega) (by omega) (by omega)
 rw[yf9] at h1
 rw[h2,← h1]
theorem wu6 :vh2 v0=true:=(wz8 _).2 .none
theorem q5u {N:Nat}(hN:100000≤N)(hN2:N≤1000000000){l:List UInt8}{v:q00}(h:parF N l=some v):vh2 v=true:=by
 unfold parF at h
 obtain⟨r,h1,h2,h3⟩:=xf2 (M:=N) hN ⟨Nat.le_refl _,hN2⟩ (s:=l)
 rw[h1] at h
 dsimp only at h
 split at h
 ·cases h
  rcases h3 with h3|h3
  ·rw[h3];exact wu6
  ·by_cases hl:r.1.2.2.1.length≤500
   ·rw[may_r2 (by omega) hl] at h3
    exact Option.some.inj h3
   ·exfalso
    have:w73 N l=some r:=h1
    unfold w73 yi4 at this
    have hc:¬ (l.length:Int)>402:=fun hc=>by
     rw[decide_eq_true hc,cond_true] at this
     cases this
     simp at hl
    have:=h2.2.2.2
    omega
 ·cases h
theorem name_word {l:List UInt8}(h1:l.take (je1 l)≠[])(h2:(l.take (je1 l)).length≤12):ya2 (l.take (je1 l))=true:=by
 cases l with
 |nil=>exact absurd rfl h1
 |cons c r =>
  by_cases hc:zl4 c=true
  ·have e:(c::r).take (je1 (c::r))=c::List.takeWhile (fun c=>zl4 c||qo8 c) r:=by
    unfold je1
    dsimp only
    rw[if_pos hc,← List.prefix_iff_eq_take.1 (List.takeWhile_prefix _),List.takeWhile_cons,if_pos (by rw[hc];rfl)]
   have hall:∀ x∈List.takeWhile (fun c=>zl4 c||qo8 c) r,(zl4 x||qo8 x)=true:=fun x hx=>List.all_eq_true.1 List.all_takeWhile x hx
   rw[e] at h2 ⊢
   simp only[List.length_cons] at h2
   unfold ya2 xp3
   have h3:=of_decide_eq_true hc
   simp only[Bool.and_eq_true,decide_eq_true_eq,Bool.not_eq_true',List.any_eq_false,List.mem_cons]
   refine⟨⟨by omega,h3⟩,fun x hx=>?_⟩
   have:(zl4 x||qo8 x)=true:=by
    rcases hx with rfl|hx
    ·rw[hc];rfl
    ·exact hall x hx
   unfold zl4 qo8 at this
   unfold wq4
   simp only[Bool.or_eq_true,decide_eq_true_eq,Bool.and_eq_true] at this ⊢
   omega
  ·have e:(c::r).take (je1 (c::r))=[]:=by
    unfold je1
    dsimp only
    rw[if_neg hc,List.take_zero]
   exact absurd e h1
theorem wordF_may {N:Nat}(hN:100000≤N)(hN2:N≤1000000000){l:List UInt8}{t:q39}{n:Nat}(h:vf9 N l=some (t,n)):vh2 t.2.2.1=true:=by
 cases l with
 |nil=>cases h
 |cons c r =>
  unfold vf9 at h
  dsimp only at h
  split at h
  ·split at h
   ·cases h
   ·cases h;exact wu6
  split at h
  ·split at h
   ·cases h
   rename_i c1
   split at h
   ·cases h
    rename_i c2
    refine(wz8 _).2 (.inr (.inr (.inr (.inr ⟨rfl,rfl,name_word (fun e=>c1 (.inr ⟨c2,e⟩)) (by omega)⟩))))
   split at h
   ·cases h;exact wu6
   ·cases h;exact wu6
  split at h
  ·rw[Option.map_eq_some_iff] at h
   obtain⟨v,hv,h⟩:=h
   cases h
   exact q5u hN hN2 hv
  split at h
  ·rw[Option.bind_eq_some_iff] at h
   obtain⟨m,_,h⟩:=h
   rw[Option.map_eq_some_iff] at h
   obtain⟨v,hv,h⟩:=h
   cases h
   exact q5u hN hN2 hv
  split at h
  ·cases h
  ·cases h;exact wu6
theorem Lx.may {N:Nat}(hN:100000≤N)(hN2:N≤1000000000){s:List UInt8}{L:List q39}(h:Lx N s L):∀ t∈L,vh2 t.2.2.1=true:=by
 induction h with
 |done=>simp
 |space _ ih=>exact ih
 |line _ ih=>exact ih
 |com _ ih=>exact ih
 |tok _ _ _ h4 _ ih =>
  intro t ht
  rcases List.mem_cons.1 ht with rfl|ht
  ·exact wordF_may hN hN2 h4
  ·exact ih t ht
theorem litF_may {s:List UInt8}{v:q00}(h:litF s=some v):vh2 v=true:=by
 unfold litF at h
 split at h
 ·cases h;exact(wz8 _).2 (.truth true)
 split at h
 ·cases h;exact(wz8 _).2 (.truth false)
 split at h
 ·cases h;exact wu6
 ·cases h
theorem Run.may {L:List q39}(hL:∀ t∈L,vh2 t.2.2.1=true){m:Mode}{a a':Int}{T T':List q15}{o:List Int}(h:Run L m a T a' T' o):0≤a→(∀ x∈T,vh2 x.2.1=true)→a≤a'∧∀ x∈T',vh2 x.2.1=true:=by
 have one:∀ {T:List q15} {x:q15},(∀ x∈T,vh2 x.2.1=true)→vh2 x.2.1=true→∀ y∈T++[x],vh2 y.2.1=true:=fun {T x} h hx y hy=>by
  rcases List.mem_append.1 hy with hy|hy
  ·exact h y hy
  ·rw[List.mem_singleton.1 hy];exact hx
 induction h with
 |atom _ ih=>exact ih
 |not hx h ih=>intro h0 hT;obtain⟨g1,g2⟩:=ih (by omega) hT;exact⟨by omega,one g2 wu6⟩
 |neg hx h ih=>intro h0 hT;obtain⟨g1,g2⟩:=ih (by omega) hT;exact⟨by omega,one g2 wu6⟩
 |inf _ _ _ _ _ _ ih1 ih2=>intro h0 hT;obtain⟨g1,g2⟩:=ih1 h0 hT;obtain⟨k1,k2⟩:=ih2 (by omega) g2;exact⟨by omega,k2⟩
 |stop _=>intro h0 hT;exact⟨by omega,hT⟩
 |cmp hx h ih=>intro h0 hT;obtain⟨g1,g2⟩:=ih (by omega) hT;exact⟨by omega,one g2 wu6⟩
 |more _ hx h1 h2 ih1 ih2=>intro h0 hT;obtain⟨g1,g2⟩:=ih1 (by omega) hT;obtain⟨k1,k2⟩:=ih2 (by omega) (one g2 wu6);exact⟨by omega,k2⟩
 |var h1 h2=>intro h0 hT;exact⟨by omega,one hT wu6⟩
 |self h1 h2=>intro h0 hT;exact⟨by omega,one hT wu6⟩
 |lit h1 h2=>intro h0 hT;exact⟨by omega,one hT (hL _ (wz9 h0 h1))⟩
 |word h1 h2 h3 h4=>intro h0 hT;exact⟨by omega,one hT (litF_may h4)⟩
 |call h1 h2 h3 h4 h5 h6 ih=>intro h0 hT;obtain⟨g1,g2⟩:=ih (by omega) hT;exact⟨by omega,one g2 wu6⟩
 |paren h1 h2 h3 h4 ih=>intro h0 hT;obtain⟨g1,g2⟩:=ih (by omega) hT;exact⟨by omega,g2⟩
 |last h1 h2 h3 ih=>exact ih
 |next h1 h2 h3 h4 ih1 ih2=>intro h0 hT;obtain⟨g1,g2⟩:=ih1 h0 hT;obtain⟨k1,k2⟩:=ih2 (by omega) g2;exact⟨by omega,k2⟩
theorem Rd.may {N:Nat}(hN:100000≤N)(hN2:N≤1000000000){s:List UInt8}{t:List q15}(h:Rd N s t):∀ x∈t,vh2 x.2.1=true:=by
 obtain⟨L,i,h1,h2,_⟩:=h.ex
 exact(h2.may (h1.may hN hN2) (by omega) (by simp)).2
theorem k86.vok {v:q00}(h:k86 v)(w:WfV v):VOK 1000 v:=⟨w.1,w.2.1,w.2.2,by have:=h.len;omega⟩
section
variable {N:Nat} {sV:List q86} {sS:Int} {vals:List q00} {t:List q15} {kind:Int} {self:q00}
theorem q8o (hN:1000000<N)(hkn:Tells ((qd1 N).bind fun r=>some r) fun r=>r=true)(hsV:sV.length≤40)(hvals:∀ v∈vals,WfV v∧v.2.2.1.length≤9223372036854775807)(hself:OfK sS self)(wself:VOK 1000 self)(hlen:t.length≤60)(h0:0<t.length)
  (hno:∀ n∈t,VOK 1000 n.2.1∧n.2.2.2.1.length≤100000) (ht:uq8 t t.length) (hlit:∀ x∈t,vh2 x.2.1=true) {kd:Int→Int} (hP:∀ (i:Nat) (h:i<t.length),k92 sV sS t[i] (t[i].2.2.2.1.map kd) (kd i)) (hkind:kind=kd ((t.length:Int)-1)) (a b c d e:Int) (o0:List q86) :
  Tells (q80 (wg0 N vals t kind sV (sV.length:Int) o0 a self.1 self.2.1 self.2.2.1 b c d e) N ([],0)) fun r=>r=true:=by
 refine Tells.iter (fun (e:List q30×Int)=>∃ k:Nat,e.2=k∧k≤sV.length∧q7q (sV.take k) e.1∧∀ b∈e.1,VOK 1000 b.2.1) (fun e=>sV.length-e.2.toNat) ?_ N _ ⟨0,rfl,by omega,⟨rfl,fun j h=>by simp at h⟩,by simp⟩ (by dsimp only;omega)
 rintro K ⟨vars,i⟩ ⟨k,e1,hk,hv,hw⟩ hK
 dsimp only at e1 hv hw
 subst e1
 have hvl:=hv.1
 rw[List.length_take] at hvl
 unfold wg0
 dsimp only
 refine Tells.dec (fun c=>?_) fun c=>?_
 ·have hk':k<sV.length:=by omega
  have tk:=we5 sV k hk'
  rw[qc8 hk']
  refine Tells.ok (qi0 (by omega) (by omega)) ?_
  have next:∀ v:q00,OfK sV[k].2.1 v→VOK 1000 v→Tells (bif qr1 (vars.length+([(sV[k].1,v,())]:List q30).length) 2932031007402 then bif q24 ((k:Int)+1) then K ((vars++([(sV[k].1,v,())]:List q30)),(k:Int)+1) else none else none) fun r=>r=true:=fun v hv1 hv2=>by
   refine Tells.ok (jy4 (by simp;omega)) (Tells.ok (inI (by omega) (by omega)) (hK _ ⟨k+1,by simp,by omega,⟨by simp;omega,fun j h1 h2=>?_⟩,fun b hb=>?_⟩ (by dsimp only;omega)))
   ·dsimp only at h1 ⊢
    simp only[List.length_append,List.length_cons,List.length_nil] at h1
    simp only[tk]
    by_cases hj:j<vars.length
    ·rw[List.getElem_append_left hj,List.getElem_append_left (by rw[List.length_take];omega)]
     exact hv.2 j hj (by rw[List.length_take];omega)
    ·have e:j=k:=by omega
     rw[List.getElem_append_right (by omega),List.getElem_append_right (by rw[List.length_take];omega)]
     simp only[List.getElem_singleton]
     exact⟨trivial,hv1⟩
   ·rcases List.mem_append.1 hb with hb|hb
    ·exact hw b hb
    ·rw[List.mem_singleton.1 hb];exact hv2
  have nul:Tells (bif qr1 (vars.length+([(sV[k].1,(0,0,[],()),())]:List q30).length) 2932031007402 then bif q24 ((k:Int)+1) then K ((vars++([(sV[k].1,(0,0,[],()),())]:List q30)),(k:Int)+1) else none else none) fun r=>r=true:=next _ ⟨.none,.inr rfl⟩ (qf4 1000)
  refine Tells.dec (fun c2=>?_) fun _=>nul
  have hkv:k<vals.length:=by omega
  obtain⟨w1,w2⟩:=hvals _ (List.getElem_mem hkv)
  rw[qc8 hkv]
  refine Tells.ok (qi0 (by omega) (by omega)) (Tells.bindE (yi3 w2) (Tells.ite (fun hm=>Tells.ok (qi0 (by omega) (by omega)) (Tells.ite (fun he=>Tells.ok (qi0 (by omega) (by omega)) (next _ ⟨(wz8 _).1 hm,.inl (by simpa using he)⟩ (((wz8 _).1 hm).vok w1))) fun _=>nul)) fun _=>nul))
 ·have:k=sV.length:=by omega
  subst this
  rw[List.take_length] at hv
  have hev:EvOK N 1000 t (self.1,self.2.1,self.2.2.1,()) vars:=⟨hN,by omega,hno,wself,hw⟩
  refine Tells.bind (q8d hev hlen h0 (by omega) ht hlit hP hself hv) fun r ⟨hr,hvr⟩=>Tells.ite (fun c1=>?_) fun c1=>?_
  ·have c1:r.2.1≠0:=by simpa using c1
   obtain⟨q1,q2⟩:=hr.err c1
   rw[q1]
   refine Tells.ok rfl (Tells.ite (fun _=>hkn) fun n9=>Tells.ok ?_ hkn)
   have n9:r.2.1≠9:=by simpa using n9
   simp;omega
  ·have c1:r.2.1=0:=by simpa using c1
   obtain⟨q1,q2⟩:=hr.ok c1
   refine Tells.bindE (yi3 (by have:=q1.len;omega)) (Tells.ok ((wz8 _).2 q1) (Tells.ite (fun _=>hkn) fun n=>Tells.ok ?_ hkn))
   have n:r.1.1≠kind:=by simpa using n
   rw[hkind] at n
   rcases q2 with q2|q2
   ·exact absurd q2 n
   ·simpa using q2
theorem ky1 {s:List UInt8}{scope:qw2}(hself:WfV self∧self.2.2.1.length≤9223372036854775807)(hvals:∀ v∈vals,WfV v∧v.2.2.1.length≤9223372036854775807):Tells (qy4 2000000 s scope self vals) fun r=>r=true:=by
 obtain⟨sV,sS,us⟩:=scope
 obtain⟨k,n,ss,us⟩:=self
 unfold qy4 zw4
 have hr:Tells (zb1 2000000 s) fun r=>s.length≤600→r.2.2.1=0→Rd 2000000 s r.1:=by
  by_cases h:s.length≤65536
  ·exact(uo3 (by omega) h).mono fun r hr _=>hr
  ·exact(q6z (by omega)).mono fun r _ h2=>absurd h2 (by omega)
 refine Tells.bind hr fun r hr=>Tells.dec (fun _=>z73) fun c1=>Tells.ite (fun _=>z73) fun c2=>Tells.dec (fun _=>z73) fun c3=>?_
 have hs:s.length≤600:=by omega
 have hrd:=hr hs (by simpa using c2)
 dsimp only at c3 ⊢
 have hgood:∀ x∈r.1,VOK 1000 x.2.1∧x.2.2.1.length≤1000∧x.2.2.2.1.length≤1000:=fun x hx=>by
  obtain⟨⟨a1,a2,a3⟩,_⟩:=hrd.good x hx
  exact⟨a1.up (by omega),by omega,by omega⟩
 refine Tells.bind (Of_tells (sV:=sV) (sS:=sS) (by omega) (by omega) (by omega) hgood) fun r4 hr4=>Tells.ite (fun _=>z73) fun c4=>?_
 obtain⟨k1,k2,k3,k4,k5⟩:=hr4 (by simpa using c4)
 have main:=fun (self:q00) (hs:OfK sS self) (ws:VOK 1000 self)=>q8o (N:=2000000) (vals:=vals) (t:=r.1) (kind:=r4.1) (self:=self) (by omega) z73 (show sV.length≤40 by omega) hvals hs ws k3 k2 (fun n hn=>⟨(hgood n hn).1,by have:=(hgood n hn).2.2;omega⟩) k1 (hrd.may (by omega) (by omega)) k5 k4
 refine Tells.ite (fun _=>main v0 ⟨.none,.inr rfl⟩ (qf4 1000) sS r.2.1.1 r.2.1.2.1 r4.2.1.1 r4.2.1.2.1 sV) fun c5=>Tells.bindE (yi3 hself.2) (Tells.ite (fun _=>main v0 ⟨.none,.inr rfl⟩ (qf4 1000) sS r.2.1.1 r.2.1.2.1 r4.2.1.1 r4.2.1.2.1 sV) fun c6=>?_)
 have c5:k=sS:=by simpa using c5
 have hm:k86 (k,n,ss,us):=(wz8 _).1 (by simpa using c6)
 exact main (k,n,ss,us) ⟨hm,.inl c5⟩ (hm.vok hself.1) sS r.2.1.1 r.2.1.2.1 r4.2.1.1 r4.2.1.2.1 sV
end
end Go.Proofs.YtgicljncknbgcaaGreat.Abs
