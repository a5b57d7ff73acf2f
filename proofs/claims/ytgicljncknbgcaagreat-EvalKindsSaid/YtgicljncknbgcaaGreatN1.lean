/- The document's long numbers: what the told functions tell of them. -/
import Derived.Test.YtgicljncknbgcaaGreatG7
import Derived.Test.YtgicljncknbgcaaGreatL7
set_option linter.unusedVariables false
set_option linter.unusedSimpArgs false
set_option linter.unusedSectionVars false
namespace Go.Proofs.YtgicljncknbgcaaGreat.Abs
def vl :List Int→Int
 |[]=>0
 |d::l=>d+10000*vl l
def Dig (l:List Int):Prop:=∀ d∈l,0≤d∧d<10000
def Nrm (l:List Int):Prop:=l.getLast?≠some 0
theorem qj8 :∀ {l:List Int},Dig l→0≤vl l
 |[],_=>by simp[vl]
 |d::l,h=>by
  have h1:=h d (by simp)
  have h2:=qj8 (l:=l) fun x hx=>h x (by simp[hx])
  simp only[vl];omega
theorem Dig.app {a b:List Int}(h1:Dig a)(h2:Dig b):Dig (a++b):=fun d hd=>(List.mem_append.1 hd).elim (h1 d) (h2 d)
theorem Dig.one {d:Int}(h1:0≤d)(h2:d<10000):Dig [d]:=fun x hx=>by simp at hx;subst hx;exact⟨h1,h2⟩
theorem yu7 :∀ (a b:List Int),vl (a++b)=vl a+10000 ^ a.length*vl b
 |[],b=>by simp[vl]
 |d::a,b=>by
  simp only[List.cons_append,vl,yu7 a b,List.length_cons,Int.pow_succ]
  rw[Int.mul_add,← Int.mul_assoc,Int.mul_comm 10000 (10000 ^ a.length),Int.add_assoc]
theorem Dig.nth {a:List Int}(h:Dig a)(i:Int):0≤q17 a i 0∧q17 a i 0<10000:=by
 unfold q17
 rw[List.getD_eq_getElem?_getD]
 cases hx:a[i.toNat]? with
 |none=>simp
 |some x=>exact h x (List.mem_of_getElem? hx)
theorem jq2 (a:List Int)(k:Nat):vl (a.drop k)=q17 a (k:Int) 0+10000*vl (a.drop (k+1)):=by
 unfold q17
 rw[Int.toNat_natCast]
 by_cases h:k<a.length
 ·rw[List.drop_eq_getElem_cons h,vl]
  simp[h]
 ·rw[List.drop_of_length_le (by omega),List.drop_of_length_le (by omega)]
  simp[vl,List.getElem?_eq_none (show a.length≤k by omega)]
theorem Dig.drop {a:List Int}(h:Dig a)(k:Nat):Dig (a.drop k):=fun d hd=>h d (List.mem_of_mem_drop hd)
theorem Dig.take {a:List Int}(h:Dig a)(k:Nat):Dig (a.take k):=fun d hd=>h d (List.mem_of_mem_take hd)
theorem vl_lt :∀ {l:List Int},Dig l→vl l<10000 ^ l.length
 |[],_=>by simp[vl]
 |d::l,h=>by
  have h1:=h d (by simp)
  have h2:=vl_lt (l:=l) fun x hx=>h x (by simp[hx])
  simp only[vl,List.length_cons,Int.pow_succ];omega
theorem nrm_nth {a:List Int}{k:Nat}(h:Nrm a)(hk:k+1=a.length):q17 a (k:Int) 0≠0:=by
 unfold Nrm at h
 intro e
 apply h
 unfold q17 at e
 rw[Int.toNat_natCast] at e
 rw[List.getLast?_eq_getElem?,show a.length-1=k by omega]
 rw[List.getD_eq_getElem?_getD,List.getElem?_eq_getElem (by omega)] at e
 rw[List.getElem?_eq_getElem (by omega)]
 simpa using e
theorem Nrm.app {a:List Int}{d:Int}(h:d≠0):Nrm (a++[d]):=by simp[Nrm,h]
theorem Nrm.nil :Nrm []:=by simp[Nrm]
theorem vl_ge {l:List Int}(hd:Dig l)(hn:Nrm l)(h0:l≠[]):10000 ^ (l.length-1)≤vl l:=by
 have e:l=l.dropLast++[l.getLast h0]:=(List.dropLast_concat_getLast h0).symm
 have hl:l.getLast h0≠0:=by
  intro e0
  apply hn
  rw[List.getLast?_eq_some_getLast h0,e0]
 have hlast:=hd _ (List.getLast_mem h0)
 rw[e,yu7]
 simp only[vl,List.length_append,List.length_dropLast,List.length_singleton]
 have h1:=qj8 (l:=l.dropLast) fun d h=>hd d (List.dropLast_subset _ h)
 have h2:(10000:Int) ^ (l.length-1)*1≤10000 ^ (l.length-1)*(l.getLast h0+10000*0):=by
  apply Int.mul_le_mul_of_nonneg_left
  ·omega
  ·exact Int.le_of_lt (Int.pow_pos (by omega))
 rw[show l.length-1+1-1=l.length-1 by omega]
 omega
theorem q3t {l:List Int}(hd:Dig l)(hn:Nrm l):vl l=0↔l=[]:=by
 constructor
 ·intro h
  refine Classical.byContradiction fun h0=>?_
  have:=vl_ge hd hn h0
  have:(0:Int)<10000 ^ (l.length-1):=Int.pow_pos (by omega)
  omega
 ·intro h;subst h;rfl
structure Can (x:qa3) (v:Int) (n:Nat):Prop where
 dig:Dig x.2.1
 nrm:Nrm x.2.1
 len:x.2.1.length≤n
 val:vl x.2.1=v.natAbs
 sgn:x.1=decide (v<0)
theorem Can.mono {x:qa3}{v:Int}{n m:Nat}(h:Can x v n)(k:n≤m):Can x v m:=⟨h.dig,h.nrm,Nat.le_trans h.len k,h.val,h.sgn⟩
theorem xz5 {a b:Int}(h:0≤a):Int.tdiv a b=a/b:=Int.tdiv_eq_ediv_of_nonneg h
theorem tmodE {a b:Int}(h:0≤a):Int.tmod a b=a % b:=Int.tmod_eq_emod_of_nonneg h
theorem jl8 {a:List Int}{k:Nat}(h:a.length≤k):q17 a (k:Int) 0=0:=by
 unfold q17
 rw[Int.toNat_natCast,List.getD_eq_getElem?_getD,List.getElem?_eq_none h]
 rfl
def UpI (a b:List Int)(e:List Int×Int×Int):Prop:=∃ k:Nat,e.2.2=k∧e.1.length=k∧Dig e.1∧(e.2.1=0∨e.2.1=1) ∧
 vl e.1+10000 ^ k*(e.2.1+vl (a.drop k)+vl (b.drop k))=vl a+vl b∧(k≤max a.length b.length∨(k=max a.length b.length+1∧e.2.1=0)) ∧
 (Nrm a→Nrm b→a.length≤k→b.length≤k→e.2.1=0→Nrm e.1)
def UpP (a b r:List Int):Prop:=Dig r∧vl r=vl a+vl b∧r.length≤max a.length b.length+1∧(Nrm a→Nrm b→Nrm r)
theorem up_step {a b:List Int}(ha:Dig a)(hb:Dig b){out:List Int}{more i:Int}(h:UpI a b (out,more,i))(hc:i<a.length∨i<b.length∨more>0){s:Int}
  (hs:s=more+q17 a i 0+q17 b i 0):UpI a b (out++[s.tmod 10000],s.tdiv 10000,i+1):=by
 obtain⟨k,h1,h2,h3,h4,h5,h6,h7⟩:=h
 simp only at h1 h2 h3 h4 h5 h6 h7
 subst h1
 have hA:=ha.nth (k:Int)
 have hB:=hb.nth (k:Int)
 have hA0:=jl8 (a:=a) (k:=k)
 have hB0:=jl8 (a:=b) (k:=k)
 have s0:0≤s:=by omega
 rw[xz5 s0,tmodE s0]
 refine⟨k+1,rfl,by simp[h2],h3.app (.one (by omega) (by omega)),by show s/10000=0∨s/10000=1;omega,?_,?_,?_⟩
 ·simp only
  rw[yu7,h2,← h5,jq2 a k,jq2 b k,Int.pow_succ]
  simp only[vl]
  rw[Int.add_assoc,Int.mul_assoc (10000 ^ k) 10000,← Int.mul_add]
  congr 2
  omega
 ·show k+1≤_∨(_∧s/10000=0)
  omega
 ·intro na nb l1 l2 e
  simp only at l1 l2 e ⊢
  refine .app ?_
  have ea:k+1=a.length→q17 a (k:Int) 0≠0:=fun h=>nrm_nth na h
  have eb:k+1=b.length→q17 b (k:Int) 0≠0:=fun h=>nrm_nth nb h
  omega
theorem vu2 {M N:Nat}{a b:List Int}(ha:Dig a)(hb:Dig b)(hN:a.length+b.length+3≤M)(hl:M≤N∧M≤1000000000):Tells (q0p N a b) (UpP a b):=by
 unfold q0p q0r
 refine Tells.iter (UpI a b) (fun e=>(max a.length b.length+2-e.2.2).toNat) ?_ N _ ?_ ?_
 ·rintro K ⟨out,more,i⟩ hI hK
  have hI':=hI
  obtain⟨k,h1,h2,h3,h4,h5,h6,h7⟩:=hI'
  simp only at h1 h2 h3 h4 h5 h6 h7
  have hA:=ha.nth i
  have hB:=hb.nth i
  have hA0:i≥a.length→q17 a i 0=0:=fun h=>by rw[h1];exact jl8 (by omega)
  have hB0:i≥b.length→q17 b i 0=0:=fun h=>by rw[h1];exact jl8 (by omega)
  have go:∀ s,s=more+q17 a i 0+q17 b i 0→(i<a.length∨i<b.length∨more>0)→Tells (bif qr1 (out.length+[s.tmod 10000].length) 17592186044416 then bif q24 (s.tdiv 10000) then bif q24 (i+1) then K (out++[s.tmod 10000],s.tdiv 10000,i+1) else none else none else none) (UpP a b):=by
   intro s hs hc
   have s0:0≤s:=by omega
   have e1:=xz5 (b:=10000) s0
   refine Tells.ok (jy4 (by simp;omega)) (Tells.ok (inI (by omega) (by omega)) (Tells.ok (inI (by omega) (by omega)) ?_))
   refine hK _ (up_step ha hb hI hc hs) ?_
   simp only
   omega
  unfold uz2
  simp only
  repeat' first
   |exact go _ (by omega) (by omega)
   |refine Tells.ok (qi0 (by omega) (by omega)) ?_
   |refine Tells.ok (inI (by omega) (by omega)) ?_
   |refine Tells.dec (fun c=>?_) (fun c=>?_)
   |(exfalso;omega)
  refine Tells.some ⟨h3,?_,by omega,fun na nb=>h7 na nb (by omega) (by omega) (by omega)⟩
  rw[List.drop_of_length_le (by omega),List.drop_of_length_le (by omega)] at h5
  simp only[vl] at h5
  rw[← h5,show more=0 by omega]
  omega
 ·exact⟨0,rfl,rfl,(fun d h=>by cases h),Or.inl rfl,by simp[vl],Or.inl (by omega),fun _ _ _ _ _=>Nrm.nil⟩
 ·simp;omega
def sg (neg:Bool)(v:Int):Int:=if neg then -v else v
theorem qk1 {M N:Nat}{neg:Bool}{d:List Int}(hd:Dig d)(hN:d.length<M)(hl:M≤N∧M≤1000000000):Tells (wo9 N neg d) fun x=>Can x (sg neg (vl d)) d.length:=by
 unfold wo9 vt9
 refine Tells.iter (fun e=>Dig e∧vl e=vl d∧e.length≤d.length) (fun e=>e.length) ?_ N _ ⟨hd,rfl,Nat.le_refl _⟩ (by omega)
 rintro K e ⟨h1,h2,h3⟩ hK
 have h0:=qj8 h1
 have fin:Nrm e→Tells (bif neg then some (decide ((e.length:Int)>0),e,()) else some (false,e,())) fun x=>Can x (sg neg (vl d)) d.length:=by
  intro hn
  have hz:=q3t h1 hn
  refine Tells.ite (fun c=>Tells.some ⟨h1,hn,h3,?_,?_⟩) fun c=>Tells.some ⟨h1,hn,h3,?_,?_⟩
  ·simp only[sg,c,if_true];omega
  ·simp only[sg,c,if_true]
   by_cases he:e=[]
   ·subst he;simp[vl] at h2;simp[← h2]
   ·have:vl e≠0:=fun h=>he (hz.1 h)
    have:0<e.length:=List.length_pos_iff.2 he
    simp only[decide_eq_decide]
    omega
  ·simp only[sg,c];simp;omega
  ·simp only[sg,c];simp;omega
 unfold xr3
 simp only
 refine Tells.dec (fun c=>?_) (fun c=>?_)
 ·refine Tells.ok (inI (by omega) (by omega)) (Tells.ok (qi0 (by omega) (by omega)) ?_)
  have e1:((e.length:Int)-1)=((e.length-1:Nat):Int):=by omega
  have hlt:e.length-1<e.length:=by omega
  have hx:q17 e ((e.length:Int)-1) 0=e[e.length-1]:=by rw[e1,qc8 hlt]
  refine Tells.ite (fun c2=>?_) (fun c2=>?_)
  ·refine Tells.ok (inI (by omega) (by omega)) (Tells.ok (w2d (by omega) (by omega)) ?_)
   have e2:((e.length:Int)-1).toNat=e.length-1:=by omega
   rw[e2]
   rw[hx] at c2
   have c2:e[e.length-1]=0:=by simpa using c2
   refine hK _ ⟨h1.take _,?_,by simp;omega⟩ (by simp;omega)
   have e3:e=e.take (e.length-1)++[0]:=by
    conv=>lhs;rw[← List.take_append_drop (e.length-1) e]
    rw[List.drop_eq_getElem_cons hlt,c2,List.drop_of_length_le (by omega)]
   rw[← h2]
   conv=>rhs;rw[e3,yu7]
   simp[vl]
  ·refine fin ?_
   unfold Nrm
   rw[List.getLast?_eq_getElem?,List.getElem?_eq_getElem hlt]
   intro h
   rw[hx] at c2
   simp at h c2
   exact c2 h
 ·refine fin ?_
  have:e=[]:=List.eq_nil_of_length_eq_zero (by omega)
  subst this
  exact .nil
theorem pow_mono {a b:Nat}(h:a≤b):(10000:Int) ^ a≤10000 ^ b:=by
 induction h with
 |refl=>exact Int.le_refl _
 |step _ ih =>
  have h0:(0:Int)<10000 ^ a:=Int.pow_pos (by omega)
  rw[Int.pow_succ]
  omega
theorem k84 (a:List Int)(k:Nat)(h:k≤a.length):vl a=vl (a.take k)+10000 ^ k*vl (a.drop k):=by
 conv=>lhs;rw[← List.take_append_drop k a,yu7]
 rw[List.length_take,Nat.min_eq_left h]
theorem by_len {a b:List Int}(ha:Dig a)(hb:Dig b)(nb:Nrm b)(h:a.length<b.length):vl a<vl b:=by
 have h1:=vl_lt ha
 have h2:=vl_ge hb nb (by intro e;subst e;simp at h)
 have h3:=pow_mono (show a.length≤b.length-1 by omega)
 omega
theorem q4s {a b:List Int}(ha:Dig a)(hb:Dig b)(k:Nat)(h1:k<a.length)(h2:k<b.length)(he:a.drop (k+1)=b.drop (k+1))(hlt:q17 a (k:Int) 0<q17 b (k:Int) 0):vl a<vl b:=by
 rw[k84 a k (by omega),k84 b k (by omega),jq2 a k,jq2 b k,he]
 have e1:=vl_lt (ha.take k)
 have e2:=qj8 (hb.take k)
 rw[List.length_take,Nat.min_eq_left (by omega)] at e1
 have e3:(10000:Int) ^ k*(q17 a (k:Int) 0+10000*vl (b.drop (k+1))+1)≤10000 ^ k*(q17 b (k:Int) 0+10000*vl (b.drop (k+1))) :=
  Int.mul_le_mul_of_nonneg_left (by omega) (Int.le_of_lt (Int.pow_pos (by omega)))
 rw[Int.mul_add _ _ 1] at e3
 omega
theorem q0k {M N:Nat}{a b:List Int}(ha:Dig a)(hb:Dig b)(na:Nrm a)(nb:Nrm b)(hN:a.length+b.length+3≤M)(hl:M≤N∧M≤1000000000):Tells (q9l N a b) fun r=>(r<0↔vl a<vl b)∧(r=0↔vl a=vl b):=by
 unfold q9l q0j
 refine Tells.ite (fun c=>?_) (fun c=>?_)
 ·have c:a.length≠b.length:=by
   simp only[bne_iff_ne,ne_eq] at c
   omega
  refine Tells.ok (inI (by omega) (by omega)) (Tells.some ?_)
  rcases Nat.lt_or_gt_of_ne c with h|h
  ·have:=by_len ha hb nb h
   omega
  ·have:=by_len hb ha na h
   omega
 ·have c:a.length=b.length:=by
   have:¬ ((a.length:Int) != (b.length:Int))=true:=by rw[c];simp
   simp only[bne_iff_ne,ne_eq] at this
   omega
  refine Tells.ok (inI (by omega) (by omega)) ?_
  refine Tells.iter (fun i=>∃ k:Nat,i=(k:Int)-1∧k≤a.length∧a.drop k=b.drop k) (fun i=>(i+1).toNat) ?_ N _ ⟨a.length,rfl,Nat.le_refl _,by rw[List.drop_length,c,List.drop_length]⟩ (by omega)
  rintro K i ⟨k,h1,h2,h3⟩ hK
  unfold uy7
  simp only
  refine Tells.dec (fun c2=>?_) (fun c2=>?_)
  ·obtain⟨q,rfl⟩:∃ q,k=q+1:=⟨k-1,by omega⟩
   have hi:i=(q:Int):=by omega
   subst hi
   have hA:=ha.nth (q:Int)
   have hB:=hb.nth (q:Int)
   refine Tells.ok (qi0 (by omega) (by omega)) (Tells.ok (qi0 (by omega) (by omega)) (Tells.ite (fun c3=>?_) (fun c3=>?_)))
   ·have c3:q17 a (q:Int) 0≠q17 b (q:Int) 0:=by simpa using c3
    refine Tells.ok (qi0 (by omega) (by omega)) (Tells.ok (qi0 (by omega) (by omega)) (Tells.ok (inI (by omega) (by omega)) (Tells.some ?_)))
    rcases Int.lt_or_gt_of_ne c3 with h|h
    ·have:=q4s ha hb q (by omega) (by omega) h3 h
     omega
    ·have:=q4s hb ha q (by omega) (by omega) h3.symm h
     omega
   ·have c3:q17 a (q:Int) 0=q17 b (q:Int) 0:=by simpa using c3
    refine Tells.ok (inI (by omega) (by omega)) (hK _ ⟨q,rfl,by omega,?_⟩ (by omega))
    have q1:q<a.length:=by omega
    have q2:q<b.length:=by omega
    rw[qc8 q1,qc8 q2] at c3
    rw[List.drop_eq_getElem_cons q1,List.drop_eq_getElem_cons q2,h3,c3]
  ·refine Tells.some ?_
   have:k=0:=by omega
   subst this
   simp only[List.drop_zero] at h3
   subst h3
   omega
def DnI (a b:List Int)(e:List Int×Int×Int):Prop:=∃ k:Nat,e.2.2=k∧e.1.length=k∧Dig e.1∧(e.2.1=0∨e.2.1=1)∧k≤a.length ∧
 vl e.1+10000 ^ k*(vl (a.drop k)-vl (b.drop k)-e.2.1)=vl a-vl b
theorem down_step {a b:List Int}{out:List Int}{owed i:Int}(h:DnI a b (out,owed,i))(hc:i<a.length){d o:Int}(h1:0≤d)(h2:d<10000)(ho:o=0∨o=1)
  (hs:d-10000*o=q17 a i 0-owed-q17 b i 0):DnI a b (out++[d],o,i+1):=by
 obtain⟨k,h3,h4,h5,h6,h7,h8⟩:=h
 simp only at h3 h4 h5 h6 h7 h8
 subst h3
 refine⟨k+1,rfl,by simp[h4],h5.app (.one h1 h2),ho,by omega,?_⟩
 simp only
 rw[yu7,h4,← h8,jq2 a k,jq2 b k,Int.pow_succ]
 simp only[vl]
 rw[Int.add_assoc,Int.mul_assoc (10000 ^ k) 10000,← Int.mul_add]
 congr 2
 omega
theorem xe7 {M N:Nat}{a b:List Int}(ha:Dig a)(hb:Dig b)(hab:vl b≤vl a)(hN:a.length+b.length+3≤M)(hl:M≤N∧M≤1000000000):Tells (yz7 N a b) fun r=>Dig r∧vl r=vl a-vl b∧r.length=a.length:=by
 unfold yz7 vt7
 refine Tells.iter (DnI a b) (fun e=>(a.length+1-e.2.2).toNat) ?_ N _ ?_ ?_
 ·rintro K ⟨out,owed,i⟩ hI hK
  have hI':=hI
  obtain⟨k,h1,h2,h3,h4,h5,h6⟩:=hI'
  simp only at h1 h2 h3 h4 h5 h6
  have hA:=ha.nth i
  have hB:=hb.nth i
  have hB0:i≥b.length→q17 b i 0=0:=fun h=>by rw[h1];exact jl8 (by omega)
  have go:∀ d o,i<a.length→0≤d→d<10000→(o=0∨o=1)→d-10000*o=q17 a i 0-owed-q17 b i 0→Tells (bif qr1 (out.length+[d].length) 17592186044416 then bif q24 (i+1) then K (out++[d],o,i+1) else none else none) fun r=>Dig r∧vl r=vl a-vl b∧r.length=a.length:=by
   intro d o hc d1 d2 ho hs
   refine Tells.ok (jy4 (by simp;omega)) (Tells.ok (inI (by omega) (by omega)) ?_)
   refine hK _ (down_step hI hc d1 d2 ho hs) ?_
   simp only
   omega
  unfold xr0
  simp only
  repeat' first
   |exact go _ _ (by omega) (by omega) (by omega) (by omega) (by omega)
   |refine Tells.ok (qi0 (by omega) (by omega)) ?_
   |refine Tells.ok (inI (by omega) (by omega)) ?_
   |refine Tells.dec (fun c=>?_) (fun c=>?_)
  refine Tells.some ⟨h3,?_,by omega⟩
  have e1:k=a.length:=by omega
  have e2:=vl_lt h3
  have e3:=qj8 h3
  have e4:=qj8 (hb.drop k)
  rw[List.drop_of_length_le (show a.length≤k by omega)] at h6
  simp only[vl] at h6
  rw[h2] at e2
  have e5:vl (b.drop k)+owed=0:=by
   refine Classical.byContradiction fun hne=>?_
   have:(10000:Int) ^ k*1≤10000 ^ k*(vl (b.drop k)+owed):=Int.mul_le_mul_of_nonneg_left (by omega) (Int.le_of_lt (Int.pow_pos (by omega)))
   have e6:(10000:Int) ^ k*(0-vl (b.drop k)-owed)=- (10000 ^ k*(vl (b.drop k)+owed)):=by
    rw[← Int.mul_neg];congr 1;omega
   omega
  rw[show (0-vl (b.drop k)-owed)=0 by omega] at h6
  omega
 ·exact⟨0,rfl,rfl,(fun d h=>by cases h),Or.inl rfl,by omega,by simp[vl]⟩
 ·simp;omega
theorem v46 {M N n m:Nat}{x y:qa3}{a b:Int}(hx:Can x a n)(hy:Can y b m)(hN:n+m+5≤M)(hl:M≤N∧M≤1000000000):Tells (zt6 N x y) fun r=>Can r (a+b) (max n m+1):=by
 have x1:=hx.len
 have y1:=hy.len
 have xv:=hx.val
 have yv:=hy.val
 have xs:=hx.sgn
 have ys:=hy.sgn
 unfold zt6
 refine Tells.ite (fun c=>?_) (fun c=>?_)
 ·refine Tells.bind (vu2 hx.dig hy.dig (by omega) hl) fun r hr=>?_
  obtain⟨h1,h2,h3,_⟩:=hr
  refine Tells.bind (qk1 h1 (by omega) hl) fun r2 hr2=>Tells.some ?_
  have e:sg x.1 (vl r)=a+b:=by
   rw[h2,xv,yv,xs]
   rw[xs,ys] at c
   simp only[beq_iff_eq,decide_eq_decide] at c
   unfold sg
   by_cases ha:a<0
   ·rw[decide_eq_true ha];simp;omega
   ·rw[decide_eq_false ha];simp;omega
  rw[e] at hr2
  exact hr2.mono (by omega)
 ·refine Tells.bind (q0k hx.dig hy.dig hx.nrm hy.nrm (by omega) hl) fun r hr=>?_
  rw[xs,ys] at c
  have c:¬ (a<0↔b<0):=by
   intro h
   rw[show decide (a<0)=decide (b<0) by simp only[decide_eq_decide];exact h] at c
   simp at c
  refine Tells.dec (fun c2=>?_) (fun c2=>?_)
  ·refine Tells.bind (xe7 hx.dig hy.dig (by omega) (by omega) hl) fun r2 hr2=>?_
   obtain⟨h1,h2,h3⟩:=hr2
   refine Tells.bind (qk1 h1 (by omega) hl) fun r3 hr3=>Tells.some ?_
   have e:sg x.1 (vl r2)=a+b:=by
    rw[h2,xv,yv,xs]
    unfold sg
    by_cases ha:a<0
    ·rw[decide_eq_true ha];simp;omega
    ·rw[decide_eq_false ha];simp;omega
   rw[e] at hr3
   exact hr3.mono (by omega)
  ·refine Tells.bind (xe7 hy.dig hx.dig (by omega) (by omega) hl) fun r2 hr2=>?_
   obtain⟨h1,h2,h3⟩:=hr2
   refine Tells.bind (qk1 h1 (by omega) hl) fun r3 hr3=>Tells.some ?_
   have e:sg y.1 (vl r2)=a+b:=by
    rw[h2,xv,yv,ys]
    unfold sg
    by_cases hb:b<0
    ·rw[decide_eq_true hb];simp;omega
    ·rw[decide_eq_false hb];simp;omega
   rw[e] at hr3
   exact hr3.mono (by omega)
theorem yb1 {M N n:Nat}{x:qa3}{a:Int}(hx:Can x a n)(hN:n+5≤M)(hl:M≤N∧M≤1000000000):Tells (wo8 N x) fun r=>Can r (-a) n:=by
 have x1:=hx.len
 have xv:=hx.val
 have xs:=hx.sgn
 unfold wo8
 refine Tells.bind (qk1 hx.dig (by omega) hl) fun r2 hr2=>Tells.some ?_
 have e:sg (!x.1) (vl x.2.1)=-a:=by
  rw[xv,xs]
  unfold sg
  by_cases ha:a<0
  ·rw[decide_eq_true ha];simp;omega
  ·rw[decide_eq_false ha];simp;omega
 rw[e] at hr2
 exact hr2.mono x1
theorem v53 {M N n m:Nat}{x y:qa3}{a b:Int}(hx:Can x a n)(hy:Can y b m)(hN:n+m+5≤M)(hl:M≤N∧M≤1000000000):Tells (ui9 N x y) fun r=>Can r (a-b) (max n m+1):=by
 unfold ui9
 refine Tells.bind (yb1 hy (by omega) hl) fun r hr=>?_
 refine Tells.bind (v46 hx hr (by omega) hl) fun r2 hr2=>Tells.some hr2
theorem yb0 {M N n m:Nat}{x y:qa3}{a b:Int}(hx:Can x a n)(hy:Can y b m)(hN:n+m+5≤M)(hl:M≤N∧M≤1000000000):Tells (vr7 N x y) fun r=>r=if a<b then -1 else if a=b then 0 else 1:=by
 unfold vr7
 refine Tells.bind (v53 hx hy (by omega) hl) fun r hr=>?_
 have rv:=hr.val
 have rs:=hr.sgn
 have rz:=q3t hr.dig hr.nrm
 refine Tells.ite (fun c=>Tells.some ?_) (fun c=>Tells.dec (fun c2=>Tells.some ?_) (fun c2=>Tells.some ?_))
 ·rw[rs] at c
  have:a-b<0:=by simpa using c
  rw[if_pos (by omega)]
 ·rw[rs] at c
  have:¬ a-b<0:=by simpa using c
  have:vl r.2.1≠0:=by intro h;rw[rz.1 h] at c2;simp at c2
  rw[if_neg (by omega),if_neg (by omega)]
 ·rw[rs] at c
  have:¬ a-b<0:=by simpa using c
  have:vl r.2.1=0:=rz.2 (List.eq_nil_of_length_eq_zero (by omega))
  rw[if_neg (by omega),if_pos (by omega)]
end Go.Proofs.YtgicljncknbgcaaGreat.Abs
namespace Go.Proofs.YtgicljncknbgcaaGreat.Abs
theorem tdivN {m:Int}(h:0≤m)(b:Int):Int.tdiv (-m) b=-(m/b):=by rw[Int.neg_tdiv,xz5 h]
theorem tmodN {m:Int}(h:0≤m)(b:Int):Int.tmod (-m) b=-(m % b):=by rw[Int.neg_tmod,tmodE h]
structure OfI (n:Int) (d:List Int) (m:Int):Prop where
 dig:Dig d
 val:vl d+10000 ^ d.length*m=n.natAbs
 nn:0≤m
 nrm:m=0→Nrm d
 lim:∃ j,d.length+j=5∧m<10000 ^ j
theorem OfI.le {n:Int}{d:List Int}{m:Int}(h:OfI n d m):m≤n.natAbs:=by
 have h1:=qj8 h.dig
 have h2:=h.val
 have h3:(1:Int)*m≤10000 ^ d.length*m:=Int.mul_le_mul_of_nonneg_right (by have:(0:Int)<10000 ^ d.length:=Int.pow_pos (by omega);omega) h.nn
 omega
theorem OfI.step {n:Int}{d:List Int}{m:Int}(h:OfI n d m)(h0:m≠0):OfI n (d++[m % 10000]) (m/10000)∧d.length<5:=by
 obtain⟨h1,h2,h3,h4,j,h5,h6⟩:=h
 cases j with
 |zero=>simp at h6;omega
 |succ j =>
  rw[Int.pow_succ] at h6
  refine⟨⟨h1.app (.one (by omega) (by omega)),?_,by omega,fun h=>.app (by omega),j,by simp;omega,by omega⟩,by omega⟩
  rw[yu7,List.length_append,List.length_singleton,Int.pow_succ,← h2]
  simp only[vl]
  rw[Int.add_assoc,Int.mul_assoc (10000 ^ d.length) 10000,← Int.mul_add]
  congr 2
  omega
theorem qr2 {N:Nat}{n:Int}(h1:-9223372036854775808≤n)(h2:n≤9223372036854775807)(hN:10≤N):Tells (w23 N n) fun x=>Can x n 5:=by
 unfold w23 q0e
 refine Tells.iter (fun e=>OfI n e.2 e.1.natAbs∧(n<0→e.1≤0)∧(0≤n→0≤e.1)) (fun e=>5-e.2.length) ?_ N _ ⟨⟨(fun d h=>by cases h),by simp[vl],by omega,fun _=>Nrm.nil,5,rfl,by simp only;omega⟩,by simp only;omega,by simp only;omega⟩ (by simp;omega)
 rintro K ⟨m,d⟩ ⟨hI,hn,hp⟩ hK
 simp only at hI hn hp
 unfold uy1
 simp only
 refine Tells.ite (fun c=>?_) (fun c=>?_)
 ·have c:m≠0:=by simpa using c
  have hle:=hI.le
  obtain⟨hs,hl⟩:=hI.step (by omega)
  by_cases hm:0≤m
  ·have e0:(m.natAbs:Int)=m:=by omega
   rw[e0] at hs
   rw[tmodE hm,xz5 hm]
   refine Tells.dec (fun c2=>by omega) (fun c2=>?_)
   refine Tells.ok (jy4 (by simp;omega)) (Tells.ok (inI (by omega) (by omega)) (hK _ ⟨?_,by simp only;omega,by simp only;omega⟩ (by simp;omega)))
   have e1:((m/10000).natAbs:Int)=m/10000:=by omega
   simp only[e1]
   exact hs
  ·obtain⟨q,rfl⟩:∃ q,m=-q:=⟨-m,by omega⟩
   have hq:0≤q:=by omega
   have e0:((-q).natAbs:Int)=q:=by omega
   rw[e0] at hs
   rw[tmodN hq,tdivN hq]
   have e1:((-(q/10000)).natAbs:Int)=q/10000:=by omega
   refine Tells.dec (fun c2=>?_) (fun c2=>?_)
   ·have e2:0 - -(q % 10000)=q % 10000:=by omega
    rw[e2]
    refine Tells.ok (inI (by omega) (by omega)) (Tells.ok (jy4 (by simp;omega)) (Tells.ok (inI (by omega) (by omega)) (hK _ ⟨?_,by simp only;omega,by simp only;omega⟩ (by simp;omega))))
    simp only[e1]
    exact hs
   ·have e2:-(q % 10000)=q % 10000:=by omega
    rw[e2]
    refine Tells.ok (jy4 (by simp;omega)) (Tells.ok (inI (by omega) (by omega)) (hK _ ⟨?_,by simp only;omega,by simp only;omega⟩ (by simp;omega)))
    simp only[e1]
    exact hs
 ·have c:m=0:=by simpa using c
  subst c
  obtain⟨h1,h2,h3,h4,j,h5,h6⟩:=hI
  exact Tells.some ⟨h1,h4 rfl,by simp only;omega,by simpa using h2,rfl⟩
theorem w2g {a:List Int}(h:Dig a)(k:Nat):vl (a.drop k)≤vl a:=by
 by_cases hk:k≤a.length
 ·have e:=k84 a k hk
  have h1:=qj8 (h.take k)
  have h2:(1:Int)*vl (a.drop k)≤10000 ^ k*vl (a.drop k):=Int.mul_le_mul_of_nonneg_right (by have:(0:Int)<10000 ^ k:=Int.pow_pos (by omega);omega) (qj8 (h.drop k))
  omega
 ·rw[List.drop_of_length_le (by omega)]
  exact qj8 h
theorem sg_abs (v:Int):sg (decide (v<0)) (v.natAbs:Int)=v:=by
 unfold sg
 by_cases h:v<0
 ·rw[decide_eq_true h];simp;omega
 ·rw[decide_eq_false h];simp;omega
def xd3 (v:Int):Int×Int×Unit:=if -9223372036854775808≤v∧v≤9223372036854775807 then (v,0,()) else (0,9,())
theorem kh4 {M N n:Nat}{x:qa3}{v:Int}(hx:Can x v n)(hN:n+20≤M)(hl:M≤N∧M≤1000000000):Tells (yi0 N x) fun r=>r=xd3 v:=by
 have x1:=hx.len
 have xv:=hx.val
 have xs:=hx.sgn
 unfold yi0 xq6
 refine Tells.bind (qr2 (by omega) (by omega) (by omega)) fun r hr=>?_
 refine Tells.bind (qr2 (by omega) (by omega) (by omega)) fun r1 hr1=>?_
 refine Tells.bind (yb0 hx hr (by omega) hl) fun r2 hr2=>?_
 refine Tells.dec (fun c=>?_) (fun c=>?_)
 ·have:v < -9223372036854775808:=by
   rw[hr2] at c
   split at c
   ·assumption
   ·split at c<;>omega
  exact Tells.some (by unfold xd3;rw[if_neg (by omega)])
 have c:-9223372036854775808≤v:=by
  rw[hr2] at c
  split at c
  ·omega
  ·omega
 refine Tells.bind (yb0 hx hr1 (by omega) hl) fun r3 hr3=>?_
 refine Tells.dec (fun c2=>?_) (fun c2=>?_)
 ·have:9223372036854775807<v:=by
   rw[hr3] at c2
   split at c2
   ·omega
   ·split at c2<;>omega
  exact Tells.some (by unfold xd3;rw[if_neg (by omega)])
 have c2:v≤9223372036854775807:=by
  rw[hr3] at c2
  split at c2
  ·omega
  ·split at c2<;>omega
 refine Tells.ok (inI (by omega) (by omega)) ?_
 refine Tells.iter (fun e=>∃ k:Nat,e.2=(k:Int)-1∧k≤x.2.1.length∧e.1=sg x.1 (vl (x.2.1.drop k))) (fun e=>(e.2+1).toNat) ?_ N _ ⟨x.2.1.length,rfl,Nat.le_refl _,by rw[List.drop_length];simp[vl,sg]⟩ (by simp only;omega)
 rintro K ⟨m,i⟩ ⟨k,h1,h2,h3⟩ hK
 simp only at h1 h3
 unfold yz4
 simp only
 refine Tells.dec (fun c3=>?_) (fun c3=>?_)
 ·obtain⟨q,rfl⟩:∃ q,k=q+1:=⟨k-1,by omega⟩
  have hi:i=(q:Int):=by omega
  subst hi
  have hA:=hx.dig.nth (q:Int)
  have e1:=jq2 x.2.1 q
  have e2:=w2g hx.dig q
  have e3:=qj8 (hx.dig.drop (q+1))
  by_cases hv:v<0
  ·have hx1:x.1=true:=by rw[xs,decide_eq_true hv]
   simp only[sg,hx1,if_true] at h3
   refine Tells.ok hx1 ?_
   refine Tells.ok (inI (by omega) (by omega)) (Tells.ok (qi0 (by omega) (by omega)) (Tells.ok (inI (by omega) (by omega)) (Tells.ok (inI (by omega) (by omega)) (hK _ ⟨q,rfl,by omega,?_⟩ (by simp only;omega)))))
   simp only[sg,hx1,if_true]
   omega
  ·have hx1:x.1=false:=by rw[xs,decide_eq_false hv]
   have h3:m=vl (List.drop (q+1) x.2.1):=by simpa[sg,hx1] using h3
   refine Tells.no hx1 ?_
   refine Tells.ok (inI (by omega) (by omega)) (Tells.ok (qi0 (by omega) (by omega)) (Tells.ok (inI (by omega) (by omega)) (Tells.ok (inI (by omega) (by omega)) (hK _ ⟨q,rfl,by omega,?_⟩ (by simp only;omega)))))
   simp only[sg,hx1]
   rw[if_neg (by simp)]
   omega
 ·have:k=0:=by omega
  subst this
  refine Tells.some ?_
  rw[List.drop_zero,xv,xs,sg_abs] at h3
  unfold xd3
  rw[if_pos ⟨c,c2⟩,h3]
end Go.Proofs.YtgicljncknbgcaaGreat.Abs
namespace Go.Proofs.YtgicljncknbgcaaGreat.Abs
theorem Dig.zeros (n:Nat):Dig (List.replicate n 0):=fun d h=>by rw[List.eq_of_mem_replicate h];omega
theorem q7f :∀ n:Nat,vl (List.replicate n 0)=0
 |0=>rfl
 |n+1=>by rw[List.replicate_succ,vl,q7f n];rfl
theorem ke8 {a b:Int}(ha:0≤a∧a<10000)(hb:0≤b∧b<10000):0≤a*b∧a*b≤99980001:=by
 constructor
 ·exact Int.mul_nonneg ha.1 hb.1
 ·have h1:a*b≤9999*b:=Int.mul_le_mul_of_nonneg_right (by omega) hb.1
  omega
structure RowI (x:List Int) (y:Int) (i:Nat) (e:List Int×Int×Int) (k:Nat):Prop where
 at_:e.2.2=(k:Int)
 len:e.1.length=i+k
 dig:Dig e.1
 more:0≤e.2.1∧e.2.1≤9999
 val:vl e.1+10000 ^ (i+k)*(e.2.1+y*vl (x.drop k))=10000 ^ i*(vl x*y)
 lim:k≤x.length∨(k=x.length+1∧e.2.1=0)
theorem RowI.step {x:List Int}{y:Int}{i k:Nat}{row:List Int}{more kk:Int}(h:RowI x y i (row,more,kk) k)(hx:Dig x)(hy:0≤y∧y<10000)(hc:k<x.length∨more>0){s:Int}(hs:s=more+q17 x (k:Int) 0*y):RowI x y i (row++[s.tmod 10000],s.tdiv 10000,kk+1) (k+1):=by
 obtain⟨h1,h2,h3,h4,h5,h6⟩:=h
 simp only at h1 h2 h3 h4 h5 h6
 subst h1
 have hA:=hx.nth (k:Int)
 have hA0:=jl8 (a:=x) (k:=k)
 have hb:=ke8 hA hy
 have s0:0≤s:=by omega
 rw[xz5 s0,tmodE s0]
 refine⟨rfl,by simp[h2];omega,h3.app (.one (by omega) (by omega)),by show 0≤s/10000∧s/10000≤9999;omega,?_,?_⟩
 ·simp only
  rw[yu7,h2,← h5,jq2 x k,show i+(k+1)=(i+k)+1 by omega,Int.pow_succ]
  simp only[vl]
  rw[Int.add_assoc,Int.mul_assoc (10000 ^ (i+k)) 10000,← Int.mul_add]
  congr 2
  have e:y*(q17 x (k:Int) 0+10000*vl (x.drop (k+1)))=q17 x (k:Int) 0*y+10000*(y*vl (x.drop (k+1))):=by
   rw[Int.mul_add,Int.mul_comm y,← Int.mul_assoc,Int.mul_comm y 10000,Int.mul_assoc]
  rw[e]
  omega
 ·show k+1≤_∨(_∧s/10000=0)
  rcases hc with hc|hc
  ·omega
  ·rcases Nat.lt_or_ge k x.length with hk|hk
   ·omega
   ·rw[hA0 hk] at hs
    omega
theorem zz3 {M N n m:Nat}{x y:qa3}{a b:Int}(hx:Can x a n)(hy:Can y b m)(hN:2*n+2*m+20≤M)(hl:M≤N∧M≤1000000000):Tells (wk0 N x y) fun r=>Can r (a*b) (n+m+1):=by
 have x1:=hx.len
 have y1:=hy.len
 have xv:=hx.val
 have yv:=hy.val
 have xs:=hx.sgn
 have ys:=hy.sgn
 unfold wk0 ux9
 refine Tells.iter (fun (e:Int×Bool×List Int)=>∃ i:Nat,e.1=(i:Int)∧i≤y.2.1.length∧Can (e.2.1,e.2.2,()) (vl x.2.1*vl (y.2.1.take i)) (i+n+1)) (fun e=>(y.2.1.length+1-e.1).toNat) ?_ N _ ⟨0,rfl,by omega,⟨(fun d h=>by cases h),.nil,by simp,by simp[vl],by simp[vl]⟩⟩ (by simp only;omega)
 rintro K ⟨ii,sn,sd⟩ ⟨i,h1,h2,hS⟩ hK
 simp only at h1
 subst h1
 unfold xe4 xq3
 simp only
 have hxn:=qj8 hx.dig
 refine Tells.dec (fun c=>?_) (fun c=>?_)
 ·have hY:=hy.dig.nth (i:Int)
  have hcm:jz5 8 (i:Int) (i:Int)=true:=by rw[jg3];omega
  refine Tells.ok hcm ?_
  refine Tells.iter (fun e=>∃ k,RowI x.2.1 (q17 y.2.1 (i:Int) 0) i e k) (fun e=>(x.2.1.length+2-e.2.2).toNat) ?_ N _ ⟨0,⟨rfl,by simp,Dig.zeros _,by simp,?_,.inl (by omega)⟩⟩ (by simp only;omega)
  ·rintro K2 ⟨row,more,kk⟩ ⟨k,hR⟩ hK2
   have hk:=hR.at_
   have hlen:=hR.len
   have hmore:=hR.more
   have hlim:=hR.lim
   simp only at hk hlen hmore hlim
   subst hk
   have hA:=hx.dig.nth (k:Int)
   have hA0:=jl8 (a:=x.2.1) (k:=k)
   have hb:=ke8 hA hY
   have hp0:x.2.1.length≤k→q17 x.2.1 (k:Int) 0*q17 y.2.1 (i:Int) 0=0:=fun h=>by rw[hA0 h,Int.zero_mul]
   have go:∀ s,s=more+q17 x.2.1 (k:Int) 0*q17 y.2.1 (i:Int) 0→(k<x.2.1.length∨more>0)→Tells (bif qr1 (row.length+[s.tmod 10000].length) 17592186044416 then bif q24 (s.tdiv 10000) then bif q24 ((k:Int)+1) then K2 (row++[s.tmod 10000],s.tdiv 10000,(k:Int)+1) else none else none else none) fun r=>Can r (a*b) (n+m+1):=by
    intro s hs hc
    have s0:0≤s:=by omega
    have e1:=xz5 (b:=10000) s0
    refine Tells.ok (jy4 (by simp;omega)) (Tells.ok (inI (by omega) (by omega)) (Tells.ok (inI (by omega) (by omega)) ?_))
    refine hK2 _ ⟨k+1,hR.step hx.dig hY hc hs⟩ ?_
    simp only
    omega
   unfold vr8
   simp only
   repeat' first
    |exact go _ (by omega) (by omega)
    |refine Tells.ok (qi0 (by omega) (by omega)) ?_
    |refine Tells.ok (inI (by omega) (by omega)) ?_
    |refine Tells.dec (fun c=>?_) (fun c=>?_)
    |(exfalso;omega)
   have hv:=hR.val
   simp only at hv
   rw[List.drop_of_length_le (by omega),show more=0 by omega] at hv
   simp only[vl,Int.mul_zero,Int.add_zero] at hv
   refine Tells.bind (vu2 hS.dig hR.dig (by have h1:=hS.len;simp only at h1 ⊢;omega) hl) fun r hr=>?_
   obtain⟨u1,u2,u3,_⟩:=hr
   have hsl:=hS.len
   have hsv:=hS.val
   simp only at hsl hsv u2 u3
   refine Tells.bind (qk1 u1 (by omega) hl) fun r2 hr2=>?_
   refine Tells.ok (inI (by omega) (by omega)) (hK _ ⟨i+1,by simp,by omega,?_⟩ (by simp only;omega))
   have hpos:0≤vl x.2.1*vl (y.2.1.take i):=Int.mul_nonneg hxn (qj8 (hy.dig.take i))
   have e1:sg false (vl r)=vl x.2.1*vl (y.2.1.take (i+1)):=by
    have hi:i<y.2.1.length:=by omega
    show vl r=_
    rw[u2,hsv,hv,List.take_succ_eq_append_getElem hi,yu7,List.length_take,Nat.min_eq_left (by omega),Int.mul_add,qc8 hi]
    simp only[vl,Int.mul_zero,Int.add_zero]
    rw[Int.mul_left_comm (vl x.2.1)]
    omega
   rw[e1] at hr2
   obtain⟨q1,q2,⟨⟩⟩:=r2
   exact hr2.mono (by omega)
  ·simp only[List.drop_zero]
   rw[q7f,Int.mul_comm (q17 _ _ _)]
   simp
 ·have hi:i=y.2.1.length:=by omega
  subst hi
  rw[List.take_length] at hS
  have hsl:=hS.len
  have hsv:=hS.val
  simp only at hsl hsv
  refine Tells.bind (qk1 hS.dig (by omega) hl) fun r hr=>Tells.some ?_
  have e:sg (!(x.1==y.1)) (vl sd)=a*b:=by
   rw[hsv,xv,yv,xs,ys]
   have ea:(a.natAbs:Int)=if a<0 then -a else a:=by split<;>omega
   have eb:(b.natAbs:Int)=if b<0 then -b else b:=by split<;>omega
   have hn:(((a.natAbs:Int)*(b.natAbs:Int)).natAbs:Int)=(a.natAbs:Int)*(b.natAbs:Int):=by
    rw[Int.natAbs_mul,Int.natAbs_natCast,Int.natAbs_natCast,Int.natCast_mul]
   rw[hn,ea,eb]
   unfold sg
   by_cases ha:a<0<;>by_cases hb:b<0<;>simp[ha,hb,Int.neg_mul,Int.mul_neg]
  rw[e] at hr
  exact hr.mono (by omega)
end Go.Proofs.YtgicljncknbgcaaGreat.Abs
namespace Go.Proofs.YtgicljncknbgcaaGreat.Abs
theorem sgn_mul (a b:Int)(n:Int)(hn:n=((a.natAbs*b.natAbs:Nat):Int)):sg (decide (a<0) != decide (b<0)) n=a*b:=by
 subst hn
 rw[Int.natCast_mul]
 by_cases ha:a<0<;>by_cases hb:b<0<;>simp only[ha,hb,sg,decide_true,decide_false,bne_self_eq_false,Bool.false_eq_true,if_false,if_true,bne_iff_ne,ne_eq,not_false_eq_true,reduceCtorEq,Bool.true_bne,Bool.false_bne,Bool.not_false,Bool.not_true]
 ·rw[show ((a.natAbs:Nat):Int)=-a by omega,show ((b.natAbs:Nat):Int)=-b by omega,Int.neg_mul_neg]
 ·rw[show ((a.natAbs:Nat):Int)=-a by omega,show ((b.natAbs:Nat):Int)=b by omega,Int.neg_mul,Int.neg_neg]
 ·rw[show ((a.natAbs:Nat):Int)=a by omega,show ((b.natAbs:Nat):Int)=-b by omega,Int.mul_neg,Int.neg_neg]
 ·rw[show ((a.natAbs:Nat):Int)=a by omega,show ((b.natAbs:Nat):Int)=b by omega]
theorem q7a (a b:Int):sg (decide (a<0) != decide (b<0)) ((a.natAbs/b.natAbs:Nat):Int)=a.tdiv b:=by
 by_cases ha:a<0<;>by_cases hb:b<0<;>simp only[ha,hb,sg,decide_true,decide_false,bne_self_eq_false,Bool.false_eq_true,if_false,if_true,bne_iff_ne,ne_eq,not_false_eq_true,reduceCtorEq,Bool.true_bne,Bool.false_bne,Bool.not_false,Bool.not_true]
 ·obtain⟨x,rfl⟩:∃ x:Nat,a=-(x:Int):=⟨a.natAbs,by omega⟩
  obtain⟨y,rfl⟩:∃ y:Nat,b=-(y:Int):=⟨b.natAbs,by omega⟩
  rw[Int.neg_tdiv_neg,Int.natAbs_neg,Int.natAbs_neg];rfl
 ·obtain⟨x,rfl⟩:∃ x:Nat,a=-(x:Int):=⟨a.natAbs,by omega⟩
  obtain⟨y,rfl⟩:∃ y:Nat,b=(y:Int):=⟨b.natAbs,by omega⟩
  rw[Int.neg_tdiv,Int.natAbs_neg];rfl
 ·obtain⟨x,rfl⟩:∃ x:Nat,a=(x:Int):=⟨a.natAbs,by omega⟩
  obtain⟨y,rfl⟩:∃ y:Nat,b=-(y:Int):=⟨b.natAbs,by omega⟩
  rw[Int.tdiv_neg,Int.natAbs_neg];rfl
 ·obtain⟨x,rfl⟩:∃ x:Nat,a=(x:Int):=⟨a.natAbs,by omega⟩
  obtain⟨y,rfl⟩:∃ y:Nat,b=(y:Int):=⟨b.natAbs,by omega⟩
  rfl
theorem q7b (a b:Int):sg (decide (a<0)) ((a.natAbs % b.natAbs:Nat):Int)=a.tmod b:=by
 by_cases ha:a<0<;>simp only[ha,sg,decide_true,decide_false,Bool.false_eq_true,if_false,if_true]
 ·obtain⟨x,rfl⟩:∃ x:Nat,a=-(x:Int):=⟨a.natAbs,by omega⟩
  rw[Int.neg_tmod,Int.natAbs_neg]
  by_cases hb:b<0
  ·obtain⟨y,rfl⟩:∃ y:Nat,b=-(y:Int):=⟨b.natAbs,by omega⟩
   rw[Int.tmod_neg,Int.natAbs_neg];rfl
  ·obtain⟨y,rfl⟩:∃ y:Nat,b=(y:Int):=⟨b.natAbs,by omega⟩
   rfl
 ·obtain⟨x,rfl⟩:∃ x:Nat,a=(x:Int):=⟨a.natAbs,by omega⟩
  by_cases hb:b<0
  ·obtain⟨y,rfl⟩:∃ y:Nat,b=-(y:Int):=⟨b.natAbs,by omega⟩
   rw[Int.tmod_neg,Int.natAbs_neg];rfl
  ·obtain⟨y,rfl⟩:∃ y:Nat,b=(y:Int):=⟨b.natAbs,by omega⟩
   rfl
theorem Can.of {l:List Int}{n:Nat}(h:Dig l)(hn:Nrm l)(hl:l.length≤n):Can (false,l,()) (vl l) n :=
 ⟨h,hn,hl,by have:=qj8 h;simp only;omega,by have:=qj8 h;simp only;symm;simp;omega⟩
theorem Can.shorter {x:qa3}{v:Int}{n:Nat}{b:List Int}(h:Can x v n)(hb:Dig b)(h0:v.natAbs≤vl b):Can x v b.length:=by
 refine⟨h.dig,h.nrm,?_,h.val,h.sgn⟩
 rcases Nat.lt_or_ge b.length x.2.1.length with h1|h1
 ·have:=by_len hb h.dig h.nrm h1
  have:=h.val
  omega
 ·exact h1
theorem vl_set (q:List Int)(k:Nat)(d:Int)(h:k<q.length):vl ((q.set k d).drop k)=d+10000*vl (q.drop (k+1)):=by
 rw[List.drop_eq_getElem_cons (by simpa using h),vl,List.getElem_set_self]
 congr 3
 rw[List.drop_set,if_pos (by omega)]
theorem quo_step {b R d low r:Int}{A Q:Int}(hA:A=b*Q+R)(hr:r=d+10000*R):d+10000*A=b*(low+10000*Q)+(r-low*b):=by
 rw[hA,hr,Int.mul_add b,Int.mul_comm low b,Int.mul_add 10000,Int.mul_left_comm 10000]
 omega
theorem ki2 {M N n m:Nat}{x y:qa3}{a b:Int}(hx:Can x a n)(hy:Can y b m)(h0:b≠0)(hN:4*n+4*m+60000≤M)(hl:M≤N∧M≤1000000000):Tells (v51 N x y) fun r=>Can r.1 (a.tdiv b) n∧Can r.2.1 (a.tmod b) m:=by
 have x1:=hx.len
 have y1:=hy.len
 have xv:=hx.val
 have yv:=hy.val
 have xs:=hx.sgn
 have ys:=hy.sgn
 have hB:=Can.of hy.dig hy.nrm y1
 obtain⟨B,hBe⟩:∃ B,B=vl y.2.1:=⟨_,rfl⟩
 rw[← hBe] at hB yv
 have hB0:0<B:=by omega
 unfold v51 uy6
 have hcm:jz5 8 (x.2.1.length:Int) (x.2.1.length:Int)=true:=by rw[jg3];omega
 refine Tells.ok hcm (Tells.ok (inI (by omega) (by omega)) ?_)
 refine Tells.iter (fun (e:Int×List Int×Bool×List Int)=>∃ (k:Nat) (R:Int),e.1=(k:Int)-1∧k≤x.2.1.length∧e.2.1.length=x.2.1.length∧Dig e.2.1∧0≤R∧R<B∧Can (e.2.2.1,e.2.2.2,()) R m∧vl (x.2.1.drop k)=B*vl (e.2.1.drop k)+R) (fun e=>(e.1+1).toNat) ?_ N _
  ⟨x.2.1.length,0,rfl,Nat.le_refl _,by simp,Dig.zeros _,by omega,hB0,⟨(fun d h=>by cases h),.nil,by simp,by simp[vl],by simp⟩,by rw[List.drop_length];simp[vl]⟩ (by simp only;omega)
 rintro K ⟨i,q,rn,rd⟩ ⟨k,R,h1,h2,h3,h4,h5,h6,h7,h8⟩ hK
 simp only at h1 h3 h4 h7 h8
 unfold xe5 xq8
 simp only
 have hrl:=h7.len
 have hrv:=h7.val
 simp only at hrl hrv
 refine Tells.dec (fun c=>?_) (fun c=>?_)
 ·obtain⟨p,rfl⟩:∃ p,k=p+1:=⟨k-1,by omega⟩
  have hi:i=(p:Int):=by omega
  subst hi
  have hA:=hx.dig.nth (p:Int)
  refine Tells.ok (qi0 (by omega) (by omega)) (Tells.ok (jy4 (by simp;omega)) ?_)
  have hd1:Dig ([q17 x.2.1 (p:Int) 0]++rd):=(Dig.one hA.1 hA.2).app h7.dig
  refine Tells.bind (qk1 (neg:=false) hd1 (by simp;omega) hl) fun r hr=>?_
  obtain⟨r',hre⟩:∃ r',r'=q17 x.2.1 (p:Int) 0+10000*R:=⟨_,rfl⟩
  have e1:sg false (vl ([q17 x.2.1 (p:Int) 0]++rd))=r':=by
   show vl _=_
   rw[yu7]
   simp only[vl,List.length_singleton]
   rw[hrv]
   omega
  rw[e1] at hr
  obtain⟨rn1,rd1,⟨⟩⟩:=r
  have hr':Can (rn1,rd1,()) r' (m+1):=hr.mono (by simp;omega)
  simp only
  refine Tells.iter (fun e=>0≤e.1∧e.1≤e.2∧e.2≤9999∧e.1*B≤r'∧r'<(e.2+1)*B) (fun e=>(e.2-e.1).toNat) ?_ N _ ⟨by simp,by simp,by simp,by simp only;omega,by simp only;omega⟩ (by simp;omega)
  rintro K2 ⟨low,high⟩ ⟨g1,g2,g3,g4,g5⟩ hK2
  simp only at g1 g2 g3 g4 g5
  unfold vt0
  simp only
  refine Tells.dec (fun c2=>?_) (fun c2=>?_)
  ·refine Tells.ok (inI (by omega) (by omega)) (Tells.ok (inI (by omega) (by omega)) ?_)
   rw[xz5 (show 0≤low+high+1 by omega)]
   obtain⟨mid,hmid⟩:∃ mid,mid=(low+high+1)/2:=⟨_,rfl⟩
   rw[← hmid]
   refine Tells.ok (inI (by omega) (by omega)) ?_
   refine Tells.bind (qr2 (n:=mid) (by omega) (by omega) (by omega)) fun r1 hr1=>?_
   refine Tells.bind (zz3 hr1 hB (by omega) hl) fun r2 hr2=>?_
   refine Tells.bind (yb0 hr2 hr' (by omega) hl) fun r3 hr3=>?_
   refine Tells.dec (fun c3=>?_) (fun c3=>?_)
   ·refine hK2 _ ⟨by simp only;omega,by simp only;omega,g3,?_,g5⟩ (by simp only;omega)
    simp only
    rw[hr3] at c3
    split at c3
    ·omega
    ·split at c3<;>omega
   ·refine Tells.ok (inI (by omega) (by omega)) (hK2 _ ⟨g1,by simp only;omega,by simp only;omega,g4,?_⟩ (by simp only;omega))
    simp only
    rw[hr3] at c3
    rw[show mid-1+1=mid by omega]
    split at c3
    ·omega
    ·split at c3<;>omega
  ·have hlh:low=high:=by omega
   subst hlh
   rw[Int.add_mul] at g5
   have hin:inR (p:Int) (x.2.1.length:Int).toNat=true:=qi0 (by omega) (by omega)
   refine Tells.ok hin (Tells.ok (qi0 (by omega) (by omega)) ?_)
   refine Tells.bind (qr2 (n:=low) (by omega) (by omega) (by omega)) fun r4 hr4=>?_
   refine Tells.bind (zz3 hr4 hB (by omega) hl) fun r5 hr5=>?_
   refine Tells.bind (v53 hr' hr5 (by omega) hl) fun r6 hr6=>?_
   refine Tells.ok (inI (by omega) (by omega)) (hK _ ⟨p,r'-low*B,rfl,by omega,by simp[setD,h3],?_,by omega,by omega,?_,?_⟩ (by simp only;omega))
   ·intro d hd
    simp only[setD] at hd
    rcases List.mem_or_eq_of_mem_set hd with h|h
    ·exact h4 d h
    ·omega
   ·obtain⟨z1,z2,⟨⟩⟩:=r6
    have:=hr6.shorter hy.dig (by omega)
    exact this.mono y1
   ·simp only[setD,Int.toNat_natCast]
    rw[vl_set q p low (by omega),jq2 x.2.1 p]
    exact quo_step h8 hre
 ·have:k=0:=by omega
  subst this
  simp only[List.drop_zero] at h8
  have hbq:Nat.beq ((x.2.1.length:Int).toNat) q.length=true:=by rw[h3];simp
  refine Tells.ok hbq ?_
  refine Tells.bind (qk1 h4 (by omega) hl) fun r7 hr7=>?_
  refine Tells.bind (qk1 h7.dig (by omega) hl) fun r8 hr8=>Tells.some ?_
  rw[hrv] at hr8
  have hq0:=qj8 h4
  have ha:(a.natAbs:Int)=B*vl q+R:=by rw[← xv];exact h8
  have e1:vl q=(a.natAbs:Int)/(b.natAbs:Int):=by
   rw[ha,← yv,Int.mul_comm]
   rw[Int.add_comm,Int.add_mul_ediv_right _ _ (by omega),Int.ediv_eq_zero_of_lt h5 h6]
   omega
  have e2:(R.natAbs:Int)=(a.natAbs:Int) % (b.natAbs:Int):=by
   rw[ha,← yv,Int.add_comm,Int.mul_comm B,Int.add_mul_emod_self_right,Int.emod_eq_of_lt h5 h6]
   omega
  refine⟨?_,?_⟩
  ·have e:sg (!(x.1==y.1)) (vl q)=a.tdiv b:=by
    rw[e1,xs,ys,← q7a a b,Int.natCast_ediv]
    rfl
   rw[e] at hr7
   exact hr7.mono (by omega)
  ·have e:sg x.1 (R.natAbs:Int)=a.tmod b:=by
    rw[e2,xs,← q7b a b,Int.natCast_emod]
   rw[e] at hr8
   exact hr8.mono hrl
end Go.Proofs.YtgicljncknbgcaaGreat.Abs
namespace Go.Proofs.YtgicljncknbgcaaGreat.Abs
def rneN (n d:Nat):Nat:=if d<2*(n % d)∨(2*(n % d)=d∧n/d % 2=1) then n/d+1 else n/d
def evenV (a b:Int):Int:=sg (decide (a<0) != decide (b<0)) (rneN a.natAbs b.natAbs:Nat)
end Go.Proofs.YtgicljncknbgcaaGreat.Abs
