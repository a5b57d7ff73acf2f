/- EvalKinds: printing an expression tells; a tree of nodes. -/
import Derived.Test.YtgicljncknbgcaaGreatG9
import Derived.Test.YtgicljncknbgcaaGreatX3
set_option linter.unusedVariables false
set_option linter.unusedSimpArgs false
set_option linter.unusedSectionVars false
namespace Go.Proofs.YtgicljncknbgcaaGreat.Abs
open Go
def FitN (op n:Int):Prop :=
 1≤op∧op≤26∧(op≤3→n=0)∧(op=6∨op=17∨op=18∨op=22∨op=23→n=1)∧(4≤op→op≤16→op≠6→n=2)∧(op=21∨op=24∨op=25→n=2)∧(op=26→n=3)∧(4≤op→1≤n)
theorem call_op {N:Nat}{op:Int}(h1:18≤op)(h2:op≤26):∃ w lo hi,vz5 N op=some w∧w.length≤8∧zv1 N w=some (op,lo,hi,())∧(op=18∨op=22∨op=23→lo=1∧hi=1)∧(op=21∨op=24∨op=25→lo=2∧hi=2)∧(op=26→lo=3∧hi=3)∧1≤lo:=by
 have h:op=18∨op=19∨op=20∨op=21∨op=22∨op=23∨op=24∨op=25∨op=26:=by omega
 rcases h with rfl|rfl|rfl|rfl|rfl|rfl|rfl|rfl|rfl<;>exact⟨_,_,_,rfl,by decide,rfl,by decide,by decide,by decide,by decide⟩
theorem q8h {N:Nat}(hN:0<N)(op n:Int):Tells (xx3 N op n) fun b=>b=true→FitN op n:=by
 have a2:Tells (at1 N (jd4 N op n ())) fun b=>b=true→(4≤op→18≤op)→4≤op→FitN op n:=by
  rw[q95 hN]
  unfold jd4
  refine Tells.dec (fun h1=>Tells.dec (fun h2=>?_) fun _=>Tells.some (by simp)) fun _=>Tells.some (by simp)
  obtain⟨w,lo,hi,e1,e2,e3,e4,e5,e6,e7⟩:=call_op (N:=N) h1 h2
  refine Tells.bindE e1 (Tells.bindE e3 ?_)
  refine Tells.dec (fun h3=>Tells.some fun h4 _ _=>?_) fun _=>Tells.some (by simp)
  have h4:n≤hi:=by simpa using h4
  have h3:n≥lo:=h3
  exact⟨by omega,by omega,by omega,fun h=>by have:=e4 (by omega);omega,by omega,fun h=>by have:=e5 h;omega,fun h=>by have:=e6 h;omega,by omega⟩
 have a1:Tells (at1 N (jd3 N op n ())) fun b=>b=true→¬ (1≤op∧op≤3)→FitN op n:=by
  rw[q95 hN]
  unfold jd3 x33
  refine Tells.ite (fun h=>Tells.some fun g _=>?_) fun n6=>Tells.ite (fun h=>Tells.some fun g _=>?_) fun n17=>?_
  ·have h:op=6:=by simpa using h
   have g:n=1:=by simpa using g
   subst h g
   exact⟨by omega,by omega,by omega,by omega,by omega,by omega,by omega,by omega⟩
  ·have h:op=17:=by simpa using h
   have g:n=1:=by simpa using g
   subst h g
   exact⟨by omega,by omega,by omega,by omega,by omega,by omega,by omega,by omega⟩
  ·have n6:op≠6:=by simpa using n6
   have n17:op≠17:=by simpa using n17
   refine Tells.dec (fun h1=>Tells.dec (fun h2=>Tells.some fun g _=>?_) fun h2=>a2.mono fun b hb g _=>hb g (by omega) (by omega)) fun h1=>?_
   ·have g:n=2:=by simpa using g
    subst g
    exact⟨by omega,by omega,by omega,by omega,by omega,by omega,by omega,by omega⟩
   ·refine Tells.mono (P:=fun b=>b=false) ?_ fun b hb g=>by rw[hb] at g;cases g
    dsimp only
    rw[q95 hN]
    unfold jd4
    refine Tells.dec (fun h=>absurd h (by omega)) fun _=>Tells.some rfl
 unfold xx3 vz9
 refine Tells.dec (fun h1=>Tells.dec (fun h2=>Tells.some fun g=>?_) fun h2=>a1.mono fun b hb g=>hb g (by omega)) fun h1=>a1.mono fun b hb g=>hb g (by omega)
 have g:n=0:=by simpa using g
 subst g
 exact⟨by omega,by omega,by omega,by omega,by omega,by omega,by omega,by omega⟩
theorem vp6 {N:Nat}(hN:0<N)(op:Int):Tells (jo0 N op) fun l=>0≤l∧l≤8∧(l<8→l≠3→4≤op∧op≤17)∧(l=3→7≤op∧op≤12)∧(l=8→4≤op→18≤op):=by
 have a1:¬ (4≤op∧op≤12)→Tells (at1 N (jo1 N op ())) fun l=>0≤l∧l≤8∧(l<8→l≠3→4≤op∧op≤17)∧(l=3→7≤op∧op≤12)∧(l=8→4≤op→18≤op):=fun hh=>by
  rw[q95 hN]
  unfold jo1
  repeat' refine Tells.ite (fun h=>?_) (fun h=>?_)
  all_goals refine Tells.some ?_
  all_goals simp only[beq_iff_eq,beq_eq_false_iff_ne] at *
  all_goals omega
 unfold jo0 xx8
 refine Tells.ite (fun h=>?_) fun h=>Tells.ite (fun h'=>?_) fun h'=>Tells.ite (fun h''=>?_) fun h''=>Tells.dec (fun h3=>Tells.dec (fun h4=>?_) fun h4=>a1 (by omega)) fun h3=>a1 ?_
 all_goals simp only[beq_iff_eq,beq_eq_false_iff_ne] at *
 ·refine Tells.some ?_;omega
 ·refine Tells.some ?_;omega
 ·refine Tells.some ?_;omega
 ·refine Tells.some ?_;omega
 ·omega
theorem vp3 {N:Nat}(op:Int):Tells (yj5 N op) fun w=>w.length≤3:=by
 unfold yj5
 refine Tells.dec (fun _=>Tells.some (by simp)) fun h1=>Tells.dec (fun _=>Tells.some (by simp)) fun h2=>?_
 have h:op=4∨op=5∨op=6∨op=7∨op=8∨op=9∨op=10∨op=11∨op=12∨op=13∨op=14∨op=15∨op=16:=by omega
 rcases h with rfl|rfl|rfl|rfl|rfl|rfl|rfl|rfl|rfl|rfl|rfl|rfl|rfl<;>exact⟨_,rfl,by decide⟩
def uq8 (t:List q15)(n:Nat):Prop:=∀ (i:Nat) (h:i<t.length),i<n→FitN t[i].1 t[i].2.2.2.1.length∧∀ k∈t[i].2.2.2.1,0≤k∧k<i
section
variable {N:Nat} {t:List q15} {f:Int→Nat} {w:q15→Nat}
structure Opens (t:List q15) (f:Int→Nat) (w:q15→Nat) (o:List Int) (n:Nat):Prop where
 le:n≤t.length
 len:o.length≤n
 rng:∀ x∈o,0≤x∧x<n
 tree:uq8 t n
 sum:(o.map f).sum≤((t.take n).map w).sum
 last:n=0∨∃ O,o=O++[(n:Int)-1]
theorem Opens.next (hf:∀ i (h:i<t.length),(∀ k∈t[i].2.2.2.1,0≤k∧k<i)→f i=w t[i]+(t[i].2.2.2.1.map f).sum){o:List Int}{n a:Nat}(h:Opens t f w o n)(hn:n<t.length)(ha:a≤o.length)(hk:t[n].2.2.2.1=o.drop a)(hfit:FitN t[n].1 t[n].2.2.2.1.length):Opens t f w (([]++o.take a)++[(n:Int)]) (n+1):=by
 obtain⟨h1,h2,h3,h4,h5,h6⟩:=h
 have kr:∀ k∈t[n].2.2.2.1,0≤k∧k<n:=fun k hm=>h3 k (List.mem_of_mem_drop (by rw[← hk];exact hm))
 have ff:=hf n hn kr
 rw[List.nil_append]
 refine⟨hn,?_,?_,?_,?_,.inr ⟨o.take a,?_⟩⟩
 ·simp;omega
 ·intro x hx
  rcases List.mem_append.1 hx with hx|hx
  ·have:=h3 x (List.mem_of_mem_take hx);omega
  ·rw[List.mem_singleton.1 hx];omega
 ·intro i hi hin
  by_cases e:i=n
  ·subst e;exact⟨hfit,kr⟩
  ·exact h4 i hi (by omega)
 ·rw[we5 t n hn]
  simp only[List.map_append,List.sum_append,List.map_cons,List.map_nil,List.sum_cons,List.sum_nil]
  have e:(o.map f).sum=((o.take a).map f).sum+((o.drop a).map f).sum:=by
   rw[← List.sum_append,← List.map_append,List.take_append_drop]
  rw[ff,hk]
  omega
 ·congr 2;omega
theorem q3x (hN:1000≤N)(ht:t.length≤60)(hf:∀ i (h:i<t.length),(∀ k∈t[i].2.2.2.1,0≤k∧k<i)→f i=w t[i]+(t[i].2.2.2.1.map f).sum):Tells (yj9 N t) fun b=>b=true→uq8 t t.length∧0<t.length∧f ((t.length:Int)-1)≤(t.map w).sum:=by
 unfold yj9 xy2
 refine Tells.iter (fun (e:List Int×Int)=>∃ n:Nat,e.2=n∧Opens t f w e.1 n) (fun e=>t.length-e.2.toNat) ?_ N _ ⟨0,rfl,by omega,by simp,by simp,fun i _ h=>absurd h (by omega),by simp,.inl rfl⟩ (by simp;omega)
 rintro K ⟨o,i⟩ ⟨n,hi,hO⟩ hK
 dsimp only at hi hO
 subst hi
 have hlen:=hO.len
 have hle:=hO.le
 unfold jo2 ye3
 dsimp only
 refine Tells.dec (fun c=>?_) fun c=>Tells.some fun h1=>?_
 ·have hn:n<t.length:=by omega
  rw[qc8 hn]
  refine Tells.ok (qi0 (by omega) (by omega)) (Tells.ok (qi0 (by omega) (by omega)) (Tells.bind (q8h (by omega) _ _) fun r hr=>Tells.ite (fun _=>Tells.some (by simp)) fun hr'=>?_))
  have hfit:=hr (by simpa using hr')
  refine Tells.dec (fun _=>Tells.some (by simp)) fun hk=>?_
  generalize hks:t[n].2.2.2.1=ks at hfit hk
  have hkl:ks.length≤o.length:=by omega
  refine Tells.iter (fun (j:Int)=>∃ m:Nat,j=m∧m≤ks.length∧∀ q (h:q<m) (h1:q<ks.length) (h2:o.length-ks.length+q<o.length),ks[q]=o[o.length-ks.length+q]) (fun j=>ks.length-j.toNat) ?_ N 0 ⟨0,rfl,by omega,by intro q h;omega⟩ (by simp;omega)
  rintro K1 j ⟨m,rfl,hm,hq⟩ hK1
  unfold x38
  dsimp only
  rw[qc8 hn,hks]
  refine Tells.dec (fun c2=>?_) fun c2=>?_
  ·have hmk:m<ks.length:=by omega
   have e1:((o.length:Int)-ks.length)+m=((o.length-ks.length+m:Nat):Int):=by omega
   rw[e1,qc8 hmk,qc8 (by omega)]
   refine Tells.ok (qi0 (by omega) (by omega)) (Tells.ok (qi0 (by omega) (by omega)) (Tells.ok (inI (by omega) (by omega)) (Tells.ok (inI (by omega) (by omega)) (Tells.ok (qi0 (by omega) (by omega)) (Tells.ite (fun _=>Tells.some (by simp)) fun he=>?_)))))
   have he:ks[m]=o[o.length-ks.length+m]'(by omega):=by simpa using he
   refine Tells.ok (inI (by omega) (by omega)) (hK1 _ ⟨m+1,by omega,by omega,fun q h h1 h2=>?_⟩ (by omega))
   by_cases e:q=m
   ·subst e;exact he
   ·exact hq q (by omega) h1 h2
  ·have hmk:m=ks.length:=by omega
   have e1:((o.length:Int)-ks.length).toNat=o.length-ks.length:=by omega
   rw[e1]
   refine Tells.ok (inI (by omega) (by omega)) (Tells.ok (w2d (by omega) (by omega)) (Tells.ok (jy4 (by simp;omega)) (Tells.ok (jy4 (by simp;omega)) (Tells.ok (inI (by omega) (by omega)) (hK _ ⟨n+1,by simp,?_⟩ (by simp;omega))))))
   refine hO.next hf hn (by omega) ?_ (by rw[hks];exact hfit)
   rw[hks]
   refine List.ext_getElem (by rw[List.length_drop];omega) fun q h1 h2=>?_
   rw[List.getElem_drop]
   exact hq q (by omega) h1 (by omega)
 ·have hn:n=t.length:=by omega
  have h1:(o.length:Int)=1:=by simpa using h1
  rcases hO.last with h0|⟨O,hO2⟩
  ·omega
  ·have:O=[]:=List.eq_nil_of_length_eq_zero (by rw[hO2] at h1;simp at h1;omega)
   subst this
   have hs:=hO.sum
   rw[hO2,hn,List.take_length] at hs
   simp only[List.nil_append,List.map_cons,List.map_nil,List.sum_cons,List.sum_nil,Nat.add_zero] at hs
   exact⟨by rw[← hn];exact hO.tree,by omega,hs⟩
end
section
variable {M N:Nat} (hN:100000≤M) (hl:M≤N∧M≤1000000000)
include hN hl
theorem q0z {v:q00}{bb:Nat}(hbb:bb≤60000)(hv:VOK bb v):Tells (jm2 N v) fun u=>u.length≤2*bb+60:=by
 obtain⟨k,n,s,u⟩:=v
 obtain⟨h1,h2,h3,h4⟩:=hv
 dsimp only at h1 h2 h3 h4
 unfold jm2 xf4
 obtain⟨r,_,hmay⟩:=x63 N (k,n,s,u) (by dsimp only;omega) (by dsimp only;omega) (by omega)
 refine Tells.bindE hmay ?_
 refine Tells.ite (fun _=>Tells.some (by simp only[List.length_append,List.length_cons,List.length_nil];omega)) (fun _=>?_)
 dsimp only
 refine Tells.bind (qr2 h3.1 h3.2 (by omega)) fun x hx=>?_
 obtain⟨g,d,_⟩:=x
 dsimp only
 have main:∀ sign:List UInt8,sign.length≤1→Tells (at1 N (wu9 N k n s g d sign)) fun u=>u.length≤2*bb+60:=fun sign hs=>by
  rw[q95 (by omega)]
  unfold wu9 jm3
  dsimp only
  have dg:∀ least:Int,1≤least→least≤5→Tells (wp0 N (g,d,()) least) fun r=>least≤r.length∧r.length≤25:=fun least l1 l2 =>
   yb9 (M:=M) hN hl (hx.mono (by omega)) (by have:=h3.1;have:=h3.2;omega) l1 l2
  refine Tells.ite (fun _=>Tells.some (by simp only[List.length_append,List.length_cons,List.length_nil];omega)) (fun _=>Tells.ite (fun _=>?_) (fun _=>Tells.ite (fun _=>?_) (fun _=>Tells.ite (fun _=>?_) (fun _=>Tells.ite (fun _=>?_) (fun _=>?_)))))
  ·refine Tells.bind (dg 1 (by omega) (by omega)) fun r hr=>Tells.ok (yk8 (by omega) (by omega)) (Tells.some (by simp only[List.length_append,List.length_cons,List.length_nil];omega))
  ·refine Tells.bind (dg 5 (by omega) (by omega)) fun r hr=>?_
   refine Tells.iter (fun (e:Int)=>(r.length:Int)-3≤e∧e≤r.length) (fun (e:Int)=>e.toNat) ?_ N _ ⟨by omega,by omega⟩ (by omega)
   rintro K e ⟨k1,k2⟩ hK
   unfold yi5
   dsimp only
   have q1:((r.take ((r.length:Int)-4).toNat).length)≤25:=by simp;omega
   have q2:=slen (s:=r) (a:=(r.length:Int)-4) (b:=e) (by omega) (by omega) (by omega)
   have fin:Tells (bif q24 ((r.length:Int)-4) then
   bif upTo ((r.length:Int)-4) r.length then
   bif qj1 sign (r.take ((r.length:Int)-4).toNat) then
   bif qj1 (sign++(r.take ((r.length:Int)-4).toNat)) ([46]:List UInt8) then
   bif q24 ((r.length:Int)-4) then
   bif inB ((r.length:Int)-4) e r.length then
   bif qj1 ((sign++(r.take ((r.length:Int)-4).toNat))++([46]:List UInt8)) ((r.take e.toNat).drop ((r.length:Int)-4).toNat) then
   some (((sign++(r.take ((r.length:Int)-4).toNat))++([46]:List UInt8))++((r.take e.toNat).drop ((r.length:Int)-4).toNat))
   else none
   else none
   else none
   else none
   else none
   else none
   else none) fun u=>u.length≤2*bb+60:=by
    refine Tells.ok (inI (by omega) (by omega)) (Tells.ok (w2d (by omega) (by omega)) (Tells.ok (yk8 (by omega) (by omega)) (Tells.ok (yk8 (by rw[List.length_append];omega) (by simp)) (Tells.ok (inI (by omega) (by omega)) (Tells.ok (x61 (by omega) (by omega) (by omega)) (Tells.ok (yk8 (by rw[List.length_append,List.length_append];simp only[List.length_cons,List.length_nil];omega) (by omega)) (Tells.some (by simp only[List.length_append,List.length_cons,List.length_nil];omega))))))))
   refine Tells.ok (inI (by omega) (by omega)) (Tells.dec (fun c=>?_) (fun c=>fin))
   refine Tells.ok (inI (by omega) (by omega)) (Tells.ok (qi0 (by omega) (by omega)) (Tells.ite (fun _=>?_) (fun _=>fin)))
   exact Tells.ok (inI (by omega) (by omega)) (hK _ ⟨by omega,by omega⟩ (by omega))
  ·exact Tells.ite (fun _=>Tells.some (by simp only[List.length_append,List.length_cons,List.length_nil];omega)) (fun _=>Tells.some (by simp only[List.length_append,List.length_cons,List.length_nil];omega))
  ·exact Tells.ok (yk8 (by simp) (by omega)) (Tells.some (by simp only[List.length_append,List.length_cons,List.length_nil];omega))
  ·refine Tells.iter (fun (e:List UInt8×Int)=>0≤e.2∧e.2≤s.length∧(e.1.length:Int)≤1+2*e.2) (fun (e:List UInt8×Int)=>s.length-e.2.toNat) ?_ N _ ⟨by simp,by simp,by simp⟩ (by dsimp only;omega)
   rintro K ⟨o,i⟩ ⟨k1,k2,k3⟩ hK
   dsimp only at k1 k2 k3 hK
   unfold ja7 jm4
   dsimp only
   have hb5:i<s.length→∀ o:List UInt8,(o.length:Int)≤2+2*i→Tells (at1 N (wv1 N i k n s g d K o)) fun u=>u.length≤2*bb+60:=fun c o ho=>by
    rw[q95 (by omega)]
    unfold wv1
    have q2:=slen (s:=s) (a:=i) (b:=i+1) (by omega) (by omega) (by omega)
    refine Tells.ok (inI (by omega) (by omega)) (Tells.ok (x61 (by omega) (by omega) (by omega)) (Tells.ok (yk8 (by omega) (by omega)) (Tells.ok (inI (by omega) (by omega)) (hK _ ⟨by dsimp only;omega,by dsimp only;omega,?_⟩ (by dsimp only;omega)))))
    dsimp only
    rw[List.length_append]
    omega
   have hb4:i<s.length→Tells (at1 N (wv0 N o i k n s g d K ())) fun u=>u.length≤2*bb+60:=fun c=>by
    rw[q95 (by omega)]
    unfold wv0 jm5
    refine Tells.ok (yk8 (by omega) (by simp)) (hb5 c _ ?_)
    simp only[List.length_append,List.length_cons,List.length_nil]
    omega
   refine Tells.dec (fun c=>?_) (fun c=>Tells.ok (yk8 (by omega) (by simp)) (Tells.some (by simp only[List.length_append,List.length_cons,List.length_nil];omega)))
   refine Tells.ok (qi0 (by omega) (by omega)) (Tells.ite (fun _=>hb4 c) (fun _=>Tells.ok (qi0 (by omega) (by omega)) (Tells.ite (fun _=>hb4 c) (fun _=>hb5 c _ (by omega)))))
 exact Tells.ite (fun _=>main _ (by simp)) (fun _=>main _ (by simp))
end
def wN (n:q15):Nat:=100+2*n.2.1.2.2.1.length+n.2.2.1.length+4*n.2.2.2.1.length
theorem ug8 {f:Int→Nat}:∀ {l:List Int} {k:Int},k∈l→f k≤(l.map f).sum
 |a::l,k,h=>by
  simp only[List.map_cons,List.sum_cons]
  rcases List.mem_cons.1 h with rfl|h
  ·omega
  ·have:=ug8 (f:=f) h;omega
theorem Gr1_n (N:Nat):∀ d,(j45 N d).n=N
 |0=>rfl
 |_+1=>rfl
section
variable {N:Nat} {t:List q15} {f:Int→Nat} {b:Nat}
def Said (N:Nat)(t:List q15)(f:Int→Nat)(d:Nat)(i:Int):Prop :=
 (2*i+1≤d→Tells ((j45 N d).r8_text t i) fun u=>u.length≤f i)∧(2*i+2≤d→∀ least,Tells ((j45 N d).r8_at t i least) fun u=>u.length≤f i+2)
theorem k53 (hN:100000≤N)(hN2:N≤1000000000)(hb:b≤60000)(ht:uq8 t t.length)(hv:∀ x∈t,VOK b x.2.1∧x.2.2.1.length≤60000∧x.2.2.2.1.length≤60000)
  (hf:∀ i (h:i<t.length),(∀ k∈t[i].2.2.2.1,0≤k∧k<i)→f i=wN t[i]+(t[i].2.2.2.1.map f).sum):∀ (d:Nat) (i:Nat),i<t.length→f i≤900000→Said N t f d i
 |0,i,hi,h9=>⟨fun h=>absurd h (by omega),fun h=>absurd h (by omega)⟩
 |d+1,i,hi,h9=>by
  obtain⟨hfit,hkr⟩:=ht i hi hi
  have hfi:=hf i hi hkr
  have hm:=hv _ (List.getElem_mem hi)
  have hn:=Gr1_n N d
  refine⟨fun hd=>?_,fun hd least=>?_⟩
  ·have sub:∀ k∈t[i].2.2.2.1,f k≤900000∧Tells ((j45 N d).r8_text t k) (fun u=>u.length≤f k)∧∀ least,Tells ((j45 N d).r8_at t k least) fun u=>u.length≤f k+2:=fun k hk=>by
    have h1:=hkr k hk
    have h2:=ug8 (f:=f) hk
    obtain⟨q,rfl⟩:∃ q:Nat,k=q:=⟨k.toNat,by omega⟩
    obtain⟨g1,g2⟩:=k53 hN hN2 hb ht hv hf d q (by omega) (by omega)
    exact⟨by omega,g1 (by omega),fun least=>g2 (by omega) least⟩
   show Tells (jd6 (j45 N d) t i) fun u=>u.length≤f i
   unfold jd6 u06
   rw[qc8 hi,hn]
   generalize t[i]=x at *
   obtain⟨op,v,name,ks,pl,u⟩:=x
   dsimp only at *
   unfold wN at hfi
   dsimp only at hfi
   obtain⟨m1,m2,m3⟩:=hm
   obtain⟨f1,f2,f3,f4,f5,f6,f7,_⟩:=hfit
   have m4:=m1.2.2.2
   refine Tells.ok (qi0 (by omega) (by omega)) (Tells.ite (fun c=>?_) fun c1=>Tells.ite (fun c=>?_) fun c2=>Tells.ite (fun c=>?_) fun c3=>Tells.ite (fun c=>?_) fun c6=>Tells.ite (fun c=>?_) fun c17=>?_)
   ·refine Tells.bind (q0z (M:=100000) (N:=N) (by omega) ⟨by omega,by omega⟩ (bb:=v.2.2.1.length) (by omega) ⟨m1.1,m1.2.1,m1.2.2.1,Nat.le_refl _⟩) fun r hr=>Tells.some ?_
    omega
   ·refine Tells.ok (yk8 (by simp) (by omega)) (Tells.some ?_)
    simp only[List.length_append,List.length_cons,List.length_nil]
    omega
   ·refine Tells.some ?_
    simp only[List.length_cons,List.length_nil]
    omega
   ·have c:op=6:=by simpa using c
    have hk:ks.length=1:=by have:=f4 (.inl c);omega
    obtain⟨k0,rfl⟩:=List.length_eq_one_iff.1 hk
    obtain⟨s1,s2,s3⟩:=sub k0 (by simp)
    simp only[List.map_cons,List.map_nil,List.sum_cons,List.sum_nil] at hfi
    refine Tells.ok rfl (Tells.bind (s3 2) fun r hr=>Tells.ok (yk8 (by simp) (by omega)) (Tells.some ?_))
    simp only[List.length_append,List.length_cons,List.length_nil] at *
    omega
   ·have c:op=17:=by simpa using c
    have hk:ks.length=1:=by have:=f4 (.inr (.inl c));omega
    obtain⟨k0,rfl⟩:=List.length_eq_one_iff.1 hk
    obtain⟨s1,s2,s3⟩:=sub k0 (by simp)
    simp only[List.map_cons,List.map_nil,List.sum_cons,List.sum_nil] at hfi
    refine Tells.ok rfl (Tells.bind (s3 6) fun r hr=>Tells.ok (yk8 (by simp) (by omega)) (Tells.some ?_))
    simp only[List.length_append,List.length_cons,List.length_nil] at *
    omega
   ·simp only[beq_eq_false_iff_ne,ne_eq] at c1 c2 c3 c6 c17
    refine Tells.bind (vp6 (by omega) op) fun l ⟨l0,l8,l1,l3,lc⟩=>?_
    have two:4≤op→op≤16→∃ k0 k1,ks=[k0,k1]:=fun h1 h2=>by
     have:ks.length=2:=by have:=f5 h1 h2 c6;omega
     match ks,this with
     |[a,c],_=>exact⟨a,c,rfl⟩
    refine Tells.ite (fun c=>?_) fun n3=>Tells.dec (fun c=>?_) fun n8=>?_
    ·have c:l=3:=by simpa using c
     obtain⟨k0,k1,rfl⟩:=two (by have:=l3 c;omega) (by have:=l3 c;omega)
     obtain⟨s1,s2,s3⟩:=sub k0 (by simp)
     obtain⟨z1,z2,z3⟩:=sub k1 (by simp)
     simp only[List.map_cons,List.map_nil,List.sum_cons,List.sum_nil,List.length_cons,List.length_nil] at hfi
     refine Tells.ok rfl (Tells.bind (s3 4) fun r hr=>Tells.ok (yk8 (by omega) (by simp)) (Tells.bind (vp3 op) fun x hx=>Tells.ok (yk8 (by simp only[List.length_append,List.length_cons,List.length_nil];omega) (by omega)) (Tells.ok (yk8 (by simp only[List.length_append,List.length_cons,List.length_nil];omega) (by simp)) (Tells.ok rfl (Tells.bind (z3 4) fun y hy=>Tells.ok (yk8 (by simp only[List.length_append,List.length_cons,List.length_nil];omega) (by omega)) (Tells.some ?_))))))
     simp only[List.length_append,List.length_cons,List.length_nil]
     omega
    ·have n3:l≠3:=by simpa using n3
     have h17:=l1 c n3
     obtain⟨k0,k1,rfl⟩:=two (by omega) (by omega)
     obtain⟨s1,s2,s3⟩:=sub k0 (by simp)
     obtain⟨z1,z2,z3⟩:=sub k1 (by simp)
     simp only[List.map_cons,List.map_nil,List.sum_cons,List.sum_nil,List.length_cons,List.length_nil] at hfi
     refine Tells.ok rfl (Tells.bind (s3 l) fun r hr=>Tells.ok (yk8 (by omega) (by simp)) (Tells.bind (vp3 op) fun x hx=>Tells.ok (yk8 (by simp only[List.length_append,List.length_cons,List.length_nil];omega) (by omega)) (Tells.ok (yk8 (by simp only[List.length_append,List.length_cons,List.length_nil];omega) (by simp)) (Tells.ok rfl (Tells.ok (inI (by omega) (by omega)) (Tells.bind (z3 (l+1)) fun y hy=>Tells.ok (yk8 (by simp only[List.length_append,List.length_cons,List.length_nil];omega) (by omega)) (Tells.some ?_)))))))
     simp only[List.length_append,List.length_cons,List.length_nil]
     omega
    ·have h18:18≤op:=lc (by omega) (by omega)
     obtain⟨w,lo,hi',e1,e2,_⟩:=call_op (N:=N) h18 f2
     refine Tells.bindE e1 (Tells.ok (yk8 (by omega) (by simp)) ?_)
     refine Tells.iter (fun (e:List UInt8×Int)=>∃ m:Nat,e.2=m∧m≤ks.length∧e.1.length≤9+((ks.take m).map f).sum+2*m) (fun e=>ks.length-e.2.toNat) ?_ N _ ⟨0,rfl,by omega,by simp;omega⟩ (by dsimp only;omega)
     rintro K ⟨s,k⟩ ⟨m,hk,hmk,hs⟩ hK
     dsimp only at hk hs
     subst hk
     unfold yj7 x37
     dsimp only
     refine Tells.dec (fun c=>?_) fun c=>?_
     ·have hm':m<ks.length:=by omega
      obtain⟨s1,s2,s3⟩:=sub ks[m] (List.getElem_mem hm')
      have tk:=we5 ks m hm'
      have sumle:((ks.take m).map f).sum+f ks[m]≤(ks.map f).sum:=by
       have e:(ks.map f).sum=((ks.take (m+1)).map f).sum+((ks.drop (m+1)).map f).sum:=by
        rw[← List.sum_append,← List.map_append,List.take_append_drop]
       rw[e,tk]
       simp only[List.map_append,List.sum_append,List.map_cons,List.map_nil,List.sum_cons,List.sum_nil]
       omega
      have go:∀ s':List UInt8,s'.length≤s.length+2→Tells (at1 (j45 N d).n (yj8 (j45 N d) t m op v.1 v.2.1 v.2.2.1 name ks pl.1 pl.2.1 K s')) fun u=>u.length≤f i:=fun s' hs'=>by
       rw[hn,q95 (by omega)]
       unfold yj8
       dsimp only
       rw[qc8 hm']
       refine Tells.ok (qi0 (by omega) (by omega)) (Tells.bind s2 fun r hr=>Tells.ok (yk8 (by omega) (by omega)) (Tells.ok (inI (by omega) (by omega)) (hK _ ⟨m+1,by simp,by omega,?_⟩ (by dsimp only;omega))))
       rw[tk]
       simp only[List.length_append,List.map_append,List.sum_append,List.map_cons,List.map_nil,List.sum_cons,List.sum_nil]
       omega
      refine Tells.dec (fun _=>Tells.ok (yk8 (by omega) (by simp)) (go _ (by simp))) fun _=>go _ (by omega)
     ·have:m=ks.length:=by omega
      subst this
      rw[List.take_length] at hs
      refine Tells.ok (yk8 (by omega) (by simp)) (Tells.some ?_)
      simp only[List.length_append,List.length_cons,List.length_nil]
      omega
  ·obtain⟨g1,_⟩:=k53 hN hN2 hb ht hv hf d i hi h9
   show Tells (vz4 (j45 N d) t i least) fun u=>u.length≤f i+2
   unfold vz4
   rw[hn]
   refine Tells.bind (g1 (by omega)) fun r hr=>Tells.ok (qi0 (by omega) (by omega)) (Tells.bind (vp6 (by omega) _) fun l _=>Tells.dec (fun _=>?_) fun _=>Tells.some (by omega))
   refine Tells.ok (yk8 (by simp) (by omega)) (Tells.ok (yk8 (by simp only[List.length_append,List.length_cons,List.length_nil];omega) (by simp)) (Tells.some ?_))
   simp only[List.length_append,List.length_cons,List.length_nil]
   omega
end
theorem nthD_lft {α:Type}{l m:List α}{i:Int}{d:α}(h0:0≤i)(h:i<l.length):q17 (l++m) i d=q17 l i d:=by
 unfold q17
 rw[List.getD_eq_getElem?_getD,List.getD_eq_getElem?_getD,List.getElem?_append_left (by omega)]
def szL (t:List q15):Nat→List Nat
 |0=>[]
 |i+1=>szL t i++[wN (q17 t (i:Int) q43)+((q17 t (i:Int) q43).2.2.2.1.map fun k=>q17 (szL t i) k 0).sum]
theorem q2o (t:List q15):∀ i,(szL t i).length=i
 |0=>rfl
 |i+1=>by simp[szL,q2o t i]
theorem q2p (t:List q15){i:Nat}{k:Int}(h0:0≤k)(hk:k<i):∀ j,q17 (szL t (i+j)) k 0=q17 (szL t i) k 0
 |0=>rfl
 |j+1=>by
  rw[← q2p t h0 hk j]
  show q17 (szL t (i+j)++_) k 0=_
  exact nthD_lft h0 (by rw[q2o];omega)
theorem szF (t:List q15):∀ i (h:i<t.length),(∀ k∈t[i].2.2.2.1,0≤k∧k<i)→q17 (szL t t.length) (i:Int) 0=wN t[i]+(t[i].2.2.2.1.map fun k=>q17 (szL t t.length) k 0).sum:=fun i h hk=>by
 have e:t.length=(i+1)+(t.length-(i+1)):=by omega
 have h1:q17 (szL t t.length) (i:Int) 0=q17 (szL t (i+1)) (i:Int) 0:=by
  rw[e];exact q2p t (by omega) (by omega) _
 have h2:∀ k∈t[i].2.2.2.1,q17 (szL t t.length) k 0=q17 (szL t i) k 0:=fun k hm=>by
  have e:t.length=i+(t.length-i):=by omega
  rw[e];exact q2p t (hk k hm).1 (by have:=(hk k hm).2;omega) _
 rw[h1,List.map_congr_left h2]
 have h3:(szL t (i+1))=szL t i++[wN (q17 t (i:Int) q43)+((q17 t (i:Int) q43).2.2.2.1.map fun k=>q17 (szL t i) k 0).sum]:=rfl
 rw[h3,nthD_at (by rw[q2o]),qc8 h]
section
variable {N:Nat}
theorem q6z (hN:1000000≤N){s:List UInt8}:Tells (zb1 N s) fun _=>True:=by
 by_cases h:s.length≤65536
 ·exact(uo3 hN h).mono fun _ _=>trivial
 ·have e:ja9 N s=some ([],(0,0,()),3,()):=by
   unfold ja9 xf9
   rw[decide_eq_true (by omega)]
   rfl
  unfold zb1 xg8
  exact Tells.bindE e (Tells.some trivial)
theorem Same_any (hN:100000≤N){a b:List q15}{qw0:Bool}(ha:a.length≤60)(hk:∀ x∈a,x.2.2.2.1.length≤60000):Tells (xw3 N a b qw0) fun _=>True:=by
 unfold xw3 vz1
 refine Tells.ite (fun _=>Tells.some trivial) fun hl=>?_
 have hl:(a.length:Int)=b.length:=by simpa using hl
 refine Tells.iter (fun (i:Int)=>0≤i) (fun (i:Int)=>a.length-i.toNat) ?_ N 0 (by omega) (by simp;omega)
 intro K i hi hK
 unfold yj3 x30
 dsimp only
 refine Tells.dec (fun c=>?_) fun _=>Tells.some trivial
 have hx:q17 a i q43∈a:=wz9 hi c
 have hkx:=hk _ hx
 generalize q17 a i q43=x at *
 generalize q17 b i q43=y
 refine Tells.ok (qi0 (by omega) (by omega)) (Tells.ok (qi0 (by omega) (by omega)) (Tells.ite (fun _=>Tells.some trivial) fun _=>Tells.ite (fun _=>Tells.some trivial) fun _=>Tells.ite (fun _=>Tells.some trivial) fun _=>Tells.ite (fun _=>Tells.some trivial) fun hkl=>?_))
 have hkl:(x.2.2.2.1.length:Int)=y.2.2.2.1.length:=by simpa using hkl
 refine Tells.ite (fun _=>Tells.ite (fun _=>Tells.some trivial) fun _=>?_) fun _=>?_
 ·refine Tells.iter (fun (k:Int)=>0≤k) (fun (k:Int)=>x.2.2.2.1.length-k.toNat) ?_ N 0 (by omega) (by simp;omega)
  intro K1 k hk0 hK1
  unfold xw4
  dsimp only
  refine Tells.dec (fun c2=>?_) fun _=>Tells.ok (inI (by omega) (by omega)) (hK _ (by omega) (by omega))
  exact Tells.ok (qi0 (by omega) (by omega)) (Tells.ok (qi0 (by omega) (by omega)) (Tells.ite (fun _=>Tells.some trivial) fun _=>Tells.ok (inI (by omega) (by omega)) (hK1 _ (by omega) (by omega))))
 ·refine Tells.iter (fun (k:Int)=>0≤k) (fun (k:Int)=>x.2.2.2.1.length-k.toNat) ?_ N 0 (by omega) (by simp;omega)
  intro K1 k hk0 hK1
  unfold xw5
  dsimp only
  refine Tells.dec (fun c2=>?_) fun _=>Tells.ok (inI (by omega) (by omega)) (hK _ (by omega) (by omega))
  exact Tells.ok (qi0 (by omega) (by omega)) (Tells.ok (qi0 (by omega) (by omega)) (Tells.ite (fun _=>Tells.some trivial) fun _=>Tells.ok (inI (by omega) (by omega)) (hK1 _ (by omega) (by omega))))
theorem sum_le {w:q15→Nat}{c:Nat}:∀ {t:List q15},(∀ x∈t,w x≤c)→(t.map w).sum≤c*t.length
 |[],_=>by simp
 |x::t,h=>by
  simp only[List.map_cons,List.sum_cons,List.length_cons]
  have h1:=h x (by simp)
  have h2:=sum_le (t:=t) fun y hy=>h y (by simp[hy])
  rw[Nat.mul_add]
  omega
theorem kv5 (hN:1000000≤N)(hN2:N≤1000000000){t:List q15}(hv:∀ x∈t,VOK 1000 x.2.1∧x.2.2.1.length≤1000∧x.2.2.2.1.length≤1000):Tells (vz2 N t) fun r=>r.2.1=0→uq8 t t.length∧0<t.length∧t.length≤60:=by
 unfold vz2
 refine Tells.dec (fun _=>Tells.some (by simp)) fun c=>?_
 refine Tells.bind (q3x (t:=t) (f:=fun k=>q17 (szL t t.length) k 0) (w:=wN) (by omega) (by omega) (szF t)) fun r hr=>Tells.ite (fun _=>Tells.some (by simp)) fun c2=>?_
 obtain⟨h1,h2,h3⟩:=hr (by simpa using c2)
 have hs:(t.map wN).sum≤10000*t.length:=sum_le fun x hx=>by
  obtain⟨a1,a2,a3⟩:=hv x hx
  have:=a1.2.2.2
  unfold wN
  omega
 have e:(t.length:Int)-1=((t.length-1:Nat):Int):=by omega
 refine Tells.ok (inI (by omega) (by omega)) ?_
 have hsaid:=(k53 (N:=N) (t:=t) (f:=fun k=>q17 (szL t t.length) k 0) (b:=1000) (by omega) hN2 (by omega) h1 (fun x hx=>by obtain⟨a1,a2,a3⟩:=hv x hx;exact⟨a1,by omega,by omega⟩) (szF t) N (t.length-1) (by omega) (by rw[← e];omega)).1 (by omega)
 rw[e]
 refine Tells.bind (o:=r8_text N t _) hsaid fun u hu=>Tells.bind (q6z hN) fun r2 _=>Tells.ite (fun _=>Tells.some (by simp)) fun _=>Tells.bind (Same_any (by omega) (by omega) fun x hx=>by have:=(hv x hx).2.2;omega) fun r3 _=>Tells.ite (fun _=>Tells.some (by simp)) fun _=>Tells.some fun _=>⟨h1,h2,by omega⟩
end
end Go.Proofs.YtgicljncknbgcaaGreat.Abs
