/- EvalKinds: the document's kinds: what its small functions tell. -/
import Derived.Test.YtgicljncknbgcaaGreatK1
set_option linter.unusedVariables false
set_option linter.unusedSimpArgs false
set_option linter.unusedSectionVars false
namespace Go.Proofs.YtgicljncknbgcaaGreat.Abs
open Go
section
variable {N:Nat}
def uu9 (l:List q86)(name:List UInt8):Int×Bool×Unit:=match l.find? (fun x=>x.1==name) with
 |some x=>(x.2.1,true,())
 |none=>(0,false,())
theorem find9_is (hN:1000≤N){l:List q86}(hl:l.length≤100)(name:List UInt8):xy5 N l name=some (uu9 l name):=by
 refine Tells.get ?_
 unfold xy5 u18
 refine Tells.iter (fun (i:Int)=>∃ k:Nat,i=k∧k≤l.length∧(l.take k).find? (fun x=>x.1==name)=none) (fun (i:Int)=>l.length-i.toNat) ?_ N 0 ⟨0,rfl,by omega,rfl⟩ (by simp;omega)
 rintro K i ⟨k,rfl,hk,hf⟩ hK
 unfold xy6
 dsimp only
 refine Tells.dec (fun c=>?_) fun c=>Tells.some ?_
 ·have hk':k<l.length:=by omega
  have tk:=we5 l k hk'
  rw[qc8 hk']
  refine Tells.ok (qi0 (by omega) (by omega)) (Tells.ite (fun h=>Tells.ok (qi0 (by omega) (by omega)) (Tells.some ?_)) fun h=>Tells.ok (inI (by omega) (by omega)) (hK _ ⟨k+1,by omega,by omega,?_⟩ (by omega)))
  ·unfold uu9
   have e:l=l.take k++l[k]::l.drop (k+1):=by rw[List.getElem_cons_drop,List.take_append_drop]
   have e2:l.find? (fun x=>x.1==name)=some l[k]:=by
    conv=>lhs;rw[e]
    rw[List.find?_append,hf,Option.none_or]
    simp only[List.find?_cons,h]
   rw[e2]
  ·rw[tk,List.find?_append,hf,Option.none_or]
   simp only[List.find?_cons,h,List.find?_nil]
 ·have:k=l.length:=by omega
  subst this
  rw[List.take_length] at hf
  unfold uu9
  rw[hf]
theorem all9_is (hN:100000≤N){l:List Int}(hl:l.length≤10000)(kind:Int):Tells (jd9 N l kind) fun b=>b=true→∀ k∈l,k=kind∨k=0:=by
 unfold jd9 k37
 refine Tells.iter (fun (i:Int)=>∃ k:Nat,i=k∧k≤l.length∧∀ x∈l.take k,x=kind∨x=0) (fun (i:Int)=>l.length-i.toNat) ?_ N 0 ⟨0,rfl,by omega,by simp⟩ (by simp;omega)
 rintro K i ⟨k,rfl,hk,hf⟩ hK
 unfold u13
 dsimp only
 refine Tells.dec (fun c=>?_) fun c=>Tells.some fun _=>?_
 ·have hk':k<l.length:=by omega
  have tk:=we5 l k hk'
  rw[qc8 hk']
  have hg:Tells (ye4 N l[k] kind) fun b=>b=true→l[k]=kind∨l[k]=0:=by
   unfold ye4
   refine Tells.ite (fun h=>Tells.some fun _=>.inl (by simpa using h)) fun _=>Tells.some fun h=>.inr (by simpa using h)
  refine Tells.ok (qi0 (by omega) (by omega)) (Tells.bind hg fun r hr=>Tells.ite (fun h=>Tells.some (by simp)) fun h=>Tells.ok (inI (by omega) (by omega)) (hK _ ⟨k+1,by omega,by omega,fun x hx=>?_⟩ (by omega)))
  rw[tk] at hx
  rcases List.mem_append.1 hx with hx|hx
  ·exact hf x hx
  ·rw[List.mem_singleton.1 hx];exact hr (by simpa using h)
 ·have:k=l.length:=by omega
  subst this
  rwa[List.take_length] at hf
theorem sum9_is (hN:100000≤N){l:List Int}(hl:l.length≤10000):Tells (uo1 N l) fun r=>r.2.1=true→(∀ k∈l,k≤2∧k≤r.1)∧0≤r.1∧r.1≤2∧(r.1=0∨r.1∈l):=by
 unfold uo1 k41
 refine Tells.iter (fun (e:Int×Int)=>∃ k:Nat,e.2=k∧k≤l.length∧(∀ x∈l.take k,x≤2∧x≤e.1)∧0≤e.1∧e.1≤2∧(e.1=0∨e.1∈l)) (fun e=>l.length-e.2.toNat) ?_ N _ ⟨0,rfl,by omega,by simp,by simp,by simp,.inl rfl⟩ (by simp;omega)
 rintro K ⟨m,i⟩ ⟨k,hi,hk,hf,g0,g2,gm⟩ hK
 dsimp only at hi hf g0 g2 gm
 subst hi
 unfold u20
 dsimp only
 refine Tells.dec (fun c=>?_) fun c=>Tells.some fun _=>?_
 ·have hk':k<l.length:=by omega
  have tk:=we5 l k hk'
  rw[qc8 hk']
  have hm:=List.getElem_mem hk'
  refine Tells.ok (qi0 (by omega) (by omega)) (Tells.bind (o:=q72 N l[k]) (Q:=fun b=>b=decide (l[k]≤2)) ⟨_,rfl,rfl⟩ fun r hr=>Tells.ite (fun h=>Tells.some (by simp)) fun h=>?_)
  have h2:l[k]≤2:=by rw[hr] at h;simpa using h
  refine Tells.ok (qi0 (by omega) (by omega)) (Tells.dec (fun hg=>Tells.ok (qi0 (by omega) (by omega)) (Tells.ok (inI (by omega) (by omega)) (hK _ ⟨k+1,by simp,by omega,fun x hx=>?_,by dsimp only;omega,h2,.inr hm⟩ (by dsimp only;omega)))) fun hg=>Tells.ok (inI (by omega) (by omega)) (hK _ ⟨k+1,by simp,by omega,fun x hx=>?_,g0,g2,gm⟩ (by dsimp only;omega)))
  all_goals
   dsimp only
   rw[tk] at hx
   rcases List.mem_append.1 hx with hx|hx
   ·have:=hf x hx;omega
   ·rw[List.mem_singleton.1 hx];omega
 ·have:k=l.length:=by omega
  subst this
  rw[List.take_length] at hf
  exact⟨hf,g0,g2,gm⟩
end
def yu9 (op:Int)(ks:List Int)(kind:Int):Prop :=
 (op=4∨op=5∨op=6→kind=4∧∀ k∈ks,k=4∨k=0) ∧
 (op=7∨op=8→kind=4∧∀ a b,ks=[a,b]→a=0∨b=0∨a=b∨a≤2∧b≤2) ∧
 (9≤op→op≤12→kind=4∧∀ a b,ks=[a,b]→a=0∧b≤3∨b=0∧a≤3∨a≤2∧b≤2∨a=3∧b=3) ∧
 (13≤op→op≤20→(∀ k∈ks,k≤2∧k≤kind)∧0≤kind∧kind≤2∧(kind=0∨kind∈ks)) ∧
 (op=21→kind=1∧∀ k∈ks,k=1∨k=0) ∧
 (op=22→kind=1∧∀ k∈ks,k=3∨k=0) ∧
 (op=23→kind=3∧∀ k∈ks,k=3∨k=0) ∧
 (op=24∨op=25→kind=4∧∀ k∈ks,k=3∨k=0) ∧
 (op=26→∀ a b c,ks=[a,b,c]→(a=4∨a=0)∧(b=c∨b=0∨c=0)∧kind=if b=0 then c else b)
theorem alike9_is {N:Nat}(a b:Int):Tells (yk1 N a b) fun r=>r=true→a=0∨b=0∨a=b∨a≤2∧b≤2:=by
 unfold yk1 q72
 refine Tells.ite (fun h=>Tells.some fun _=>.inl (by simpa using h)) fun _=>Tells.ite (fun h=>Tells.some fun _=>.inr (.inl (by simpa using h))) fun _=>Tells.ite (fun h=>Tells.some fun _=>.inr (.inr (.inl (by simpa using h)))) fun _=>?_
 refine Tells.bindE rfl (Tells.dec (fun h=>Tells.bindE rfl (Tells.some fun h2=>.inr (.inr (.inr ⟨h,by simpa using h2⟩)))) fun _=>Tells.some (by simp))
section
variable {G:Gr2} {t:List q15} {sV:List q86} {sS vk vn l c:Int} {vs nm:List UInt8} {nK:List Int} {K:(List Int×Int)→Option (Int×Int×Unit)} {kids:List Int}
theorem wrong_all (hN:100000≤G.n)(hl:kids.length≤10000){op:Int}(h:op=4∨op=5∨op=6∨op=21∨op=22∨op=23∨op=24∨op=25):Tells (q96 G t sV sS op vk vn vs nm nK l c K (kids,(nK.length:Int))) fun r=>r.2.1=0→yu9 op kids r.1:=by
 unfold q96
 dsimp only
 refine Tells.dec (fun h=>absurd h (by omega)) fun _=>?_
 rcases h with rfl|rfl|rfl|rfl|rfl|rfl|rfl|rfl
 all_goals
  repeat' refine Tells.no rfl ?_
  refine Tells.ok rfl (Tells.bind (all9_is hN hl _) fun r hr=>Tells.ite (fun _=>Tells.some (by simp)) fun h2=>Tells.some fun _=>?_)
  have hr:=hr (by simpa using h2)
  unfold yu9
  simp
  exact hr
theorem wrong_eq {op a b:Int}(h:op=7∨op=8):Tells (q96 G t sV sS op vk vn vs nm nK l c K ([a,b],(nK.length:Int))) fun r=>r.2.1=0→yu9 op [a,b] r.1:=by
 unfold q96
 dsimp only
 refine Tells.dec (fun h=>absurd h (by omega)) fun _=>?_
 rcases h with rfl|rfl
 all_goals
  repeat' refine Tells.no rfl ?_
  refine Tells.ok rfl (Tells.ok rfl (Tells.ok rfl (Tells.bind (alike9_is a b) fun r hr=>Tells.ite (fun _=>Tells.some (by simp)) fun h2=>Tells.some fun _=>?_)))
  have hr:=hr (by simpa using h2)
  unfold yu9
  simp
  exact hr
theorem wrong_cmp {op a b:Int}(h:op=9∨op=10∨op=11∨op=12):Tells (q96 G t sV sS op vk vn vs nm nK l c K ([a,b],(nK.length:Int))) fun r=>r.2.1=0→yu9 op [a,b] r.1:=by
 have fin:∀ op,op=9∨op=10∨op=11∨op=12→(a=0∧b≤3∨b=0∧a≤3∨a≤2∧b≤2∨a=3∧b=3)→yu9 op [a,b] 4:=fun op ho hp=>by
  unfold yu9
  refine⟨fun h=>absurd h (by omega),fun h=>absurd h (by omega),fun _ _=>⟨rfl,fun x y e=>?_⟩,fun _ _=>absurd ho (by omega),fun h=>absurd ho (by omega),fun h=>absurd ho (by omega),fun h=>absurd ho (by omega),fun h=>absurd ho (by omega),fun h=>absurd ho (by omega)⟩
  simp only[List.cons.injEq,and_true] at e
  obtain⟨rfl,rfl⟩:=e
  exact hp
 unfold q96
 dsimp only
 refine Tells.dec (fun h=>absurd h (by omega)) fun _=>?_
 have num:∀ k:Int,q72 G.n k=some (decide (k≤2)):=fun _=>rfl
 have n0:q17 [a,b] 0 0=a:=rfl
 have n1:q17 [a,b] 1 0=b:=rfl
 simp only[n0,n1,num,Option.bind_some]
 rcases h with rfl|rfl|rfl|rfl
 all_goals
  repeat' refine Tells.no rfl ?_
  refine Tells.ok rfl ?_
  repeat' first|refine Tells.ok rfl ?_|refine Tells.dec (fun _=>?_) (fun _=>?_)|refine Tells.ite (fun _=>?_) (fun _=>?_)
  all_goals refine Tells.some ?_
  all_goals first
   |(intro h;exact absurd h (by decide))
   |(intro _;simp only[beq_iff_eq,beq_eq_false_iff_ne,Bool.not_eq_true',Bool.not_eq_false',ne_eq] at *;exact fin _ (by omega) (by omega))
theorem wrong_sum (hN:100000≤G.n)(hl:kids.length≤10000){op:Int}(h:13≤op∧op≤20):Tells (q96 G t sV sS op vk vn vs nm nK l c K (kids,(nK.length:Int))) fun r=>r.2.1=0→yu9 op kids r.1:=by
 unfold q96
 dsimp only
 refine Tells.dec (fun h=>absurd h (by omega)) fun _=>?_
 have h:op=13∨op=14∨op=15∨op=16∨op=17∨op=18∨op=19∨op=20:=by omega
 rcases h with rfl|rfl|rfl|rfl|rfl|rfl|rfl|rfl
 all_goals
  repeat' refine Tells.no rfl ?_
  refine Tells.bind (sum9_is hN hl) fun r hr=>Tells.ite (fun _=>Tells.some (by simp)) fun h2=>Tells.some fun _=>?_
  have hr:=hr (by simpa using h2)
  unfold yu9
  simp
  exact hr
theorem wrong_if {a b d:Int}:Tells (q96 G t sV sS 26 vk vn vs nm nK l c K ([a,b,d],(nK.length:Int))) fun r=>r.2.1=0→yu9 26 [a,b,d] r.1:=by
 have fin:∀ k,(a=4∨a=0)→(b=d∨b=0∨d=0)→(b=0∧k=d∨b≠0∧k=b)→yu9 26 [a,b,d] k:=fun k h1 h2 h3=>by
  unfold yu9
  refine⟨fun h=>absurd h (by omega),fun h=>absurd h (by omega),fun _ h=>absurd h (by omega),fun _ h=>absurd h (by omega),fun h=>absurd h (by omega),fun h=>absurd h (by omega),fun h=>absurd h (by omega),fun h=>absurd h (by omega),fun _ x y z e=>?_⟩
  simp only[List.cons.injEq,and_true] at e
  obtain⟨rfl,rfl,rfl⟩:=e
  refine⟨h1,h2,?_⟩
  rcases h3 with⟨h,rfl⟩|⟨h,rfl⟩
  ·rw[if_pos h]
  ·rw[if_neg h]
 unfold q96
 dsimp only
 refine Tells.dec (fun h=>absurd h (by omega)) fun _=>?_
 have n0:q17 [a,b,d] 0 0=a:=rfl
 have n1:q17 [a,b,d] 1 0=b:=rfl
 have n2:q17 [a,b,d] 2 0=d:=rfl
 have hg:Tells (ye4 G.n a 4) fun r=>r=true→a=4∨a=0:=by
  unfold ye4
  exact Tells.ite (fun h=>Tells.some fun _=>.inl (by simpa using h)) fun _=>Tells.some fun h=>.inr (by simpa using h)
 simp only[n0,n1,n2]
 repeat' refine Tells.no rfl ?_
 refine Tells.ok rfl (Tells.ok rfl (Tells.bind hg fun r hr=>?_))
 repeat' first|refine Tells.ok rfl ?_|refine Tells.ite (fun _=>?_) (fun _=>?_)
 all_goals refine Tells.some ?_
 all_goals first
  |(intro h;exact absurd h (by decide))
  |(intro _;simp only[beq_iff_eq,beq_eq_false_iff_ne,Bool.not_eq_true',Bool.not_eq_false',ne_eq] at *;exact fin _ (hr (by assumption)) (by omega) (by omega))
end
section
variable {G:Gr2} {t:List q15} {sV:List q86} {sS vk vn l c:Int} {vs nm:List UInt8} {nK:List Int} {K:(List Int×Int)→Option (Int×Int×Unit)} {kids:List Int}
def LeafP (sV:List q86)(sS op vk:Int)(nm:List UInt8)(kind:Int):Prop :=
 (op=1→kind=vk)∧(op=2→(uu9 sV nm).2.1=true∧kind=(uu9 sV nm).1∧kind≤5)∧(op=3→kind=sS∧sS≠0∧sS≤5)
theorem w2j (hN:1000≤G.n)(hv:sV.length≤100){op:Int}(h:op=1∨op=2∨op=3):Tells (q96 G t sV sS op vk vn vs nm nK l c K (kids,(nK.length:Int))) fun r=>r.2.1=0→LeafP sV sS op vk nm r.1:=by
 unfold q96
 dsimp only
 refine Tells.dec (fun h=>absurd h (by omega)) fun _=>?_
 rcases h with rfl|rfl|rfl
 ·exact Tells.ok rfl (Tells.some fun _=>⟨fun _=>rfl,fun h=>absurd h (by omega),fun h=>absurd h (by omega)⟩)
 ·refine Tells.no rfl (Tells.ok rfl (Tells.bindE (find9_is hN hv nm) (Tells.ite (fun _=>Tells.some (by simp)) fun h1=>Tells.ite (fun _=>Tells.some (by simp)) fun h2=>Tells.some fun _=>⟨fun h=>absurd h (by omega),fun _=>⟨by simpa using h1,rfl,by simpa using h2⟩,fun h=>absurd h (by omega)⟩)))
 ·refine Tells.no rfl (Tells.no rfl (Tells.ok rfl (Tells.ite (fun _=>Tells.some (by simp)) fun h1=>Tells.ite (fun _=>Tells.some (by simp)) fun h2=>Tells.some fun _=>⟨fun h=>absurd h (by omega),fun h=>absurd h (by omega),fun _=>⟨rfl,by simpa using h1,by simpa using h2⟩⟩)))
theorem w2i (n:Nat){op:Int}(hn:G.n=n):q96 G t sV sS op vk vn vs nm nK l c K (kids,(nK.length:Int))=q96 ⟨n,fun _ _ _=>none⟩ t sV sS op vk vn vs nm nK l c (fun _=>none) (kids,(nK.length:Int)):=by
 subst hn
 unfold q96
 dsimp only
 rw[decide_eq_false (by omega),cond_false,cond_false]
end
theorem Gr2_n (N:Nat):∀ d,(v14 N d).n=N
 |0=>rfl
 |_+1=>rfl
def wrR (N:Nat)(t:List q15)(s:qw2)(i:Int):Int×Int×Unit:=(r9_Wrong N t i s).getD (0,0,())
def k92 (sV:List q86)(sS:Int)(n:q15)(ks:List Int)(kind:Int):Prop:=LeafP sV sS n.1 n.2.1.1 n.2.2.1 kind∧(4≤n.1→yu9 n.1 ks kind)
section
variable {N:Nat} {t:List q15} {sV:List q86} {sS:Int}
theorem wrong_fin (hN:100000≤N)(hv:sV.length≤100){G:Gr2}(hG:G.n=N){n:q15}{kids:List Int}(hk:kids.length≤10000)(hf:FitN n.1 kids.length){l c:Int}{nK:List Int}{K:(List Int×Int)→Option (Int×Int×Unit)}:
  Tells (q96 G t sV sS n.1 n.2.1.1 n.2.1.2.1 n.2.1.2.2.1 n.2.2.1 nK l c K (kids,(nK.length:Int))) fun r=>r.2.1=0→k92 sV sS n kids r.1:=by
 obtain⟨op,⟨vk,vn,vs,u0⟩,nm,ks,pl,u1⟩:=n
 dsimp only at hf ⊢
 subst hG
 obtain⟨f1,f2,f3,f4,f5,f6,f7,_⟩:=hf
 have lf:4≤op→∀ k,LeafP sV sS op vk nm k:=fun h k=>⟨fun e=>absurd e (by omega),fun e=>absurd e (by omega),fun e=>absurd e (by omega)⟩
 have two:kids.length=2→∃ a b,kids=[a,b]:=fun h=>by
  match kids,h with
  |[a,b],_=>exact⟨a,b,rfl⟩
 by_cases h3:op≤3
 ·exact(w2j (by omega) hv (by omega)).mono fun r hr h0=>⟨hr h0,fun h=>absurd h (by omega)⟩
 by_cases h1:op=4∨op=5∨op=6∨op=21∨op=22∨op=23∨op=24∨op=25
 ·exact(wrong_all hN hk h1).mono fun r hr h0=>⟨lf (by omega) _,fun _=>hr h0⟩
 by_cases h7:op=7∨op=8
 ·obtain⟨a,b,rfl⟩:=two (f5 (by omega) (by omega) (by omega) |> fun h=>by omega)
  exact(wrong_eq h7).mono fun r hr h0=>⟨lf (by omega) _,fun _=>hr h0⟩
 by_cases h9:op=9∨op=10∨op=11∨op=12
 ·obtain⟨a,b,rfl⟩:=two (f5 (by omega) (by omega) (by omega) |> fun h=>by omega)
  exact(wrong_cmp h9).mono fun r hr h0=>⟨lf (by omega) _,fun _=>hr h0⟩
 by_cases h26:op=26
 ·subst h26
  have:kids.length=3:=by have:=f7 rfl;omega
  match kids,this with
  |[a,b,d],_=>exact wrong_if.mono fun r hr h0=>⟨lf (by omega) _,fun _=>hr h0⟩
 ·exact(wrong_sum hN hk (by omega)).mono fun r hr h0=>⟨lf (by omega) _,fun _=>hr h0⟩
theorem wr_ind (hN:100000≤N)(hv:sV.length≤100)(ht:uq8 t t.length)(hl:t.length≤60)(hk:∀ x∈t,x.2.2.2.1.length≤10000):∀ (m i:Nat),i<m→(h:i<t.length) →
  (∀ d,i<d→(v14 N d).r9_Wrong t i (sV,sS,())=some (wrR N t (sV,sS,()) i))∧((wrR N t (sV,sS,()) i).2.1=0→k92 sV sS t[i] (t[i].2.2.2.1.map fun k=>(wrR N t (sV,sS,()) k).1) (wrR N t (sV,sS,()) i).1)
 |0,i,hi,_=>absurd hi (by omega)
 |m+1,i,him,hi=>by
  obtain⟨hfit,hkr⟩:=ht i hi hi
  have hks:=hk _ (List.getElem_mem hi)
  have ih:∀ k∈t[i].2.2.2.1,∀ d,i<d+1→(v14 N d).r9_Wrong t k (sV,sS,())=some (wrR N t (sV,sS,()) k):=fun k hk' d hd=>by
   have h1:=hkr k hk'
   obtain⟨q,rfl⟩:∃ q:Nat,k=q:=⟨k.toNat,by omega⟩
   exact(wr_ind hN hv ht hl hk m q (by omega) (by omega)).1 d (by omega)
  let L:=q96 ⟨N,fun _ _ _=>none⟩ t sV sS t[i].1 t[i].2.1.1 t[i].2.1.2.1 t[i].2.1.2.2.1 t[i].2.2.1 t[i].2.2.2.1 t[i].2.2.2.2.1.1 t[i].2.2.2.2.1.2.1 (fun _=>none) (t[i].2.2.2.1.map (fun k=>(wrR N t (sV,sS,()) k).1),(t[i].2.2.2.1.length:Int))
  have hL:Tells L fun r=>r.2.1=0→k92 sV sS t[i] (t[i].2.2.2.1.map fun k=>(wrR N t (sV,sS,()) k).1) r.1 :=
   wrong_fin hN hv rfl (n:=t[i]) (by rw[List.length_map];exact hks) (by rw[List.length_map];exact hfit)
  obtain⟨r,hr,hP⟩:=hL
  have step:∀ d,i<d→(v14 N d).r9_Wrong t i (sV,sS,())=some r:=fun d hd=>by
   obtain⟨d,rfl⟩:∃ e,d=e+1:=⟨d-1,by omega⟩
   have hn:=Gr2_n N d
   refine Tells.get ?_
   show Tells (zp0 (v14 N d) t i (sV,sS,())) fun x=>x=r
   unfold zp0 xy4
   rw[qc8 hi,hn]
   refine Tells.ok (qi0 (by omega) (by omega)) ?_
   refine Tells.iter (fun (e:List Int×Int)=>∃ k:Nat,e.2=k∧k≤t[i].2.2.2.1.length∧e.1=(t[i].2.2.2.1.take k).map fun k=>(wrR N t (sV,sS,()) k).1) (fun e=>t[i].2.2.2.1.length-e.2.toNat) ?_ N _ ⟨0,rfl,by omega,rfl⟩ (by dsimp only;omega)
   rintro K ⟨kids,k⟩ ⟨k,e1,h1,h2⟩ hK
   dsimp only at e1 h2
   subst e1 h2
   by_cases c:k<t[i].2.2.2.1.length
   ·unfold q96
    dsimp only
    rw[decide_eq_true (by omega),cond_true,qc8 c]
    have tk:=we5 t[i].2.2.2.1 k c
    refine Tells.ok (qi0 (by omega) (by omega)) (Tells.bindE (ih _ (List.getElem_mem c) d (by omega)) (Tells.ok (jy4 (by simp;omega)) (Tells.ok (inI (by omega) (by omega)) (hK _ ⟨k+1,by simp,by omega,by dsimp only;rw[tk,List.map_append];rfl⟩ (by dsimp only;omega)))))
   ·have:k=t[i].2.2.2.1.length:=by omega
    subst this
    rw[List.take_length,w2i N hn]
    exact⟨r,hr,rfl⟩
  have e:wrR N t (sV,sS,()) i=r:=by
   unfold wrR r9_Wrong
   rw[step N (by omega)]
   rfl
  exact⟨fun d hd=>by rw[e];exact step d hd,fun h0=>by rw[e] at h0 ⊢;exact hP h0⟩
theorem Of_tells (hN:1000000≤N)(hN2:N≤1000000000)(hv:sV.length≤100)(ht:∀ x∈t,VOK 1000 x.2.1∧x.2.2.1.length≤1000∧x.2.2.2.1.length≤1000):
  Tells (w1i N t (sV,sS,())) fun r=>r.2.2.1=0→uq8 t t.length∧0<t.length∧t.length≤60∧r.1=(wrR N t (sV,sS,()) ((t.length:Int)-1)).1∧∀ (i:Nat) (h:i<t.length),k92 sV sS t[i] (t[i].2.2.2.1.map fun k=>(wrR N t (sV,sS,()) k).1) (wrR N t (sV,sS,()) i).1:=by
 unfold w1i q2c
 refine Tells.bind (kv5 hN hN2 ht) fun r hr=>Tells.ite (fun _=>Tells.some (by simp)) fun h0=>?_
 obtain⟨h1,h2,h3⟩:=hr (by simpa using h0)
 refine Tells.iter (fun (e:Int×Int)=>∃ k:Nat,e.2=k∧k≤t.length∧(0<k→e.1=(wrR N t (sV,sS,()) ((k:Int)-1)).1)∧∀ i,i<k→∀ (h:i<t.length),k92 sV sS t[i] (t[i].2.2.2.1.map fun k=>(wrR N t (sV,sS,()) k).1) (wrR N t (sV,sS,()) i).1) (fun e=>t.length-e.2.toNat) ?_ N _ ⟨0,rfl,by omega,fun h=>absurd h (by omega),fun i h=>absurd h (by omega)⟩ (by dsimp only;omega)
 rintro K ⟨kind,k⟩ ⟨k,e1,g1,g2,g3⟩ hK
 dsimp only at e1 g2
 subst e1
 unfold k30
 dsimp only
 refine Tells.dec (fun c=>?_) fun c=>Tells.some fun _=>?_
 ·have hk:k<t.length:=by omega
  obtain⟨w1,w2⟩:=wr_ind (N:=N) (sS:=sS) (by omega) hv h1 h3 (fun x hx=>by have:=(ht x hx).2.2;omega) (k+1) k (by omega) hk
  refine Tells.bindE (w1 N (by omega)) (Tells.ite (fun c2=>Tells.ok (qi0 (by omega) (by omega)) (Tells.some fun h=>?_)) fun c2=>Tells.ok (inI (by omega) (by omega)) (hK _ ⟨k+1,by simp,by omega,fun _=>?_,fun i hi h=>?_⟩ (by dsimp only;omega)))
  ·have c2:(wrR N t (sV,sS,()) k).2.1≠0:=by simpa using c2
   exact absurd h c2
  ·have e:((k+1:Nat):Int)-1=k:=by omega
   rw[e]
  ·by_cases e:i=k
   ·subst e;exact w2 (by simpa using c2)
   ·exact g3 i (by omega) h
 ·have:k=t.length:=by omega
  subst this
  exact⟨h1,h2,h3,g2 h2,fun i h=>g3 i h h⟩
end
def k86 (v:q00):Prop :=
 (v.1=0∧v.2.1=0∧v.2.2.1=[])∨((v.1=1∨v.1=2)∧v.2.2.1=[])∨(v.1=3∧v.2.1=0∧xi7 v.2.2.1=true)∨(v.1=4∧(v.2.1=0∨v.2.1=1)∧v.2.2.1=[])∨(v.1=5∧v.2.1=0∧ya2 v.2.2.1=true)
theorem wz8 (v:q00):vh2 v=true↔k86 v:=by
 obtain⟨k,n,s,u⟩:=v
 unfold vh2 qz3 wl0 wk9 k86
 dsimp only
 have hs:∀ {b:Bool},(s==([]:List UInt8))=b→b=decide (s=[]):=fun h=>by rw[← h];cases s<;>simp
 by_cases h0:k=0
 ·subst h0
  by_cases hn:n=0
  ·subst hn;simp
  ·have e:(n==0)=false:=by simpa using hn
   simp[e,hn]
 have e0:(k==0)=false:=by simpa using h0
 by_cases h1:k=1
 ·subst h1;simp
 have e1:(k==1)=false:=by simpa using h1
 by_cases h2:k=2
 ·subst h2;simp
 have e2:(k==2)=false:=by simpa using h2
 by_cases h3:k=3
 ·subst h3
  by_cases hn:n=0
  ·subst hn;simp
  ·have e:(n==0)=false:=by simpa using hn
   simp[e,hn]
 have e3:(k==3)=false:=by simpa using h3
 by_cases h4:k=4
 ·subst h4
  by_cases hS:s=[]
  ·subst hS
   by_cases hn:n=0
   ·subst hn;simp
   ·have e:(n==0)=false:=by simpa using hn
    simp[e,hn]
  ·have e:(s==([]:List UInt8))=false:=by simpa using hS
   simp[e,hS]
 have e4:(k==4)=false:=by simpa using h4
 by_cases h5:k=5
 ·subst h5
  by_cases hn:n=0
  ·subst hn;simp
  ·have e:(n==0)=false:=by simpa using hn
   simp[e,hn]
 have e5:(k==5)=false:=by simpa using h5
 simp[e0,e1,e2,e3,e4,e5,h0,h1,h2,h3,h4,h5]
theorem k86.rng {v:q00}(h:k86 v):0≤v.1∧v.1≤5:=by unfold k86 at h;omega
theorem k86.none :k86 (0,0,[],()):=.inl ⟨rfl,rfl,rfl⟩
theorem k86.truth (b:Bool):k86 (we6 b):=.inr (.inr (.inr (.inl ⟨rfl,by cases b<;>simp[we6],rfl⟩)))
theorem k86.num {k n:Int}(h:k=1∨k=2):k86 (k,n,[],()):=.inr (.inl ⟨h,rfl⟩)
theorem textB_len {s:List UInt8}(h:xi7 s=true):s.length≤200:=by
 unfold xi7 at h
 simp only[Bool.and_eq_true,decide_eq_true_eq] at h
 exact h.1
theorem nameB_len {s:List UInt8}(h:ya2 s=true):s.length≤200:=by
 cases s with
 |nil=>simp
 |cons c l =>
  unfold ya2 xp3 at h
  simp only[Bool.and_eq_true,decide_eq_true_eq] at h
  simp only[List.length_cons]
  omega
theorem k86.len {v:q00}(h:k86 v):v.2.2.1.length≤200:=by
 rcases h with⟨_,_,h⟩|⟨_,h⟩|⟨_,_,h⟩|⟨_,_,h⟩|⟨_,_,h⟩
 ·rw[h];simp
 ·rw[h];simp
 ·exact textB_len h
 ·rw[h];simp
 ·exact nameB_len h
def OfK (k:Int)(v:q00):Prop:=k86 v∧(v.1=k∨v.1=0)
structure qa8 (k:Int) (a:q03):Prop where
 ok:a.2.1=0→OfK k a.1
 err:a.2.1≠0→a.1=(0,0,[],())∧(a.2.1=9∨a.2.1=10)
section
variable {k a b:Int} {x y z:q03} {u v:q00}
theorem qa8.V (h:OfK k v):qa8 k (za0 v):=⟨fun _=>h,fun h=>absurd rfl h⟩
theorem qa8.nul :qa8 k (za0 (0,0,[],())):=.V ⟨.none,.inr rfl⟩
theorem qa8.truth (c:Bool):qa8 4 (za0 (we6 c)):=.V ⟨.truth c,.inl rfl⟩
theorem qa8.bad (h:qa8 a x)(e:x.2.1≠0):qa8 k x:=⟨fun h=>absurd h e,h.err⟩
theorem qa8.up (h:qa8 a x)(e:a=k∨a=0):qa8 k x:=⟨fun h0=>⟨(h.ok h0).1,by have:=(h.ok h0).2;omega⟩,h.err⟩
theorem qa8.up0 (h:qa8 a x)(e:a=k∨a≤0):qa8 k x:=⟨fun h0=>⟨(h.ok h0).1,by have:=(h.ok h0).2;have:=(h.ok h0).1.rng;omega⟩,h.err⟩
theorem qa8.tr (h:qa8 a x)(e:a=4∨a=0):qv7 x=x:=by
 unfold qv7
 rw[if_neg]
 rintro⟨h1,h2,h3⟩
 have:=(h.ok h1).2
 omega
theorem qa8.both {e:Int}{f:q00→q00→q00}(hx:qa8 a x)(hy:qa8 b y)(ha:a=4∨a=0)(hb:b=4∨b=0)(hf:∀ u v,OfK 4 u→OfK 4 v→OfK 4 (f u v)):qa8 4 (kb0 e f x y):=by
 have hx:=hx.up ha
 have hy:=hy.up hb
 unfold kb0
 rw[hx.tr (.inl rfl),hy.tr (.inl rfl)]
 split
 ·exact hx
 ·rename_i h1
  split
  ·exact hy
  ·rename_i h2
   exact .V (hf _ _ (hx.ok (by omega)) (hy.ok (by omega)))
theorem OfK.allS :∀ (l:List q00) (out:q00),OfK 4 out→(∀ v∈l,OfK 4 v)→OfK 4 (Abs.allS out l)
 |[],out,h,_=>h
 |v::l,out,h,hl=>by
  unfold Abs.allS
  split
  ·exact hl v (by simp)
  ·refine OfK.allS l _ ?_ fun v hv=>hl v (by simp[hv])
   split
   ·exact h
   ·exact⟨.none,.inr rfl⟩
theorem OfK.not (v:q00):OfK 4 (kf0 v):=by
 unfold kf0
 split
 ·exact⟨.truth _,.inl rfl⟩
 ·exact⟨.none,.inr rfl⟩
theorem qa8.left2 {F:q00→q00→q03}(hx:qa8 a x)(hy:qa8 b y)(hF:OfK a x.1→OfK b y.1→qa8 k (F x.1 y.1)):qa8 k (j99 x y F):=by
 unfold Abs.j99
 by_cases h1:x.2.1=0
 ·rw[if_neg (by omega)]
  by_cases h2:y.2.1=0
  ·rw[if_neg (by omega)];exact hF (hx.ok h1) (hy.ok h2)
  ·rw[if_pos h2];exact hy.bad h2
 ·rw[if_pos h1];exact hx.bad h1
theorem qa8.left1 {F:q00→q03}(hx:qa8 a x)(hF:OfK a x.1→qa8 k (F x.1)):qa8 k (uv9 x F):=by
 unfold Abs.uv9
 by_cases h1:x.2.1=0
 ·rw[if_neg (by omega)];exact hF (hx.ok h1)
 ·rw[if_pos h1];exact hx.bad h1
theorem null2 (h:¬ jy5 [u,v]=true):u.1≠0∧v.1≠0:=by
 unfold jy5 at h
 simp only[List.any_cons,List.any_nil,Bool.or_false,Bool.or_eq_true,beq_iff_eq] at h
 omega
theorem cmp_ok (hu:OfK a u)(hv:OfK b v)(h:a=0∨b=0∨a=b∨a≤2∧b≤2)(hn:u.1≠0∧v.1≠0):(q4u u v).2.1=true:=by
 have h1:=hu.1.rng
 have h2:=hv.1.rng
 obtain⟨_,hu⟩:=hu
 obtain⟨_,hv⟩:=hv
 unfold q4u
 split
 ·rfl
 split
 ·rfl
 ·exfalso;omega
theorem qa8.eq {l:List Bool}{t:Bool}(hu:OfK a u)(hv:OfK b v)(h:a=0∨b=0∨a=b∨a≤2∧b≤2):qa8 4 (eqF l t u v):=by
 unfold eqF
 split
 ·exact .truth _
 split
 ·exact .nul
 rename_i hn
 rw[cmp_ok hu hv h (null2 hn),if_neg (by simp)]
 exact .truth _
theorem kx7 {lo hi:Int}{l:List q00}(h:∀ v∈l,v.1=0∨lo≤v.1∧v.1≤hi):z69 lo hi l=true:=by
 unfold z69
 rw[List.all_eq_true]
 intro v hv
 simp only[Bool.or_eq_true,beq_iff_eq,Bool.and_eq_true,decide_eq_true_eq]
 exact h v hv
theorem q5b {lo hi:Int}(h1:u.1=0∨lo≤u.1∧u.1≤hi)(h2:v.1=0∨lo≤v.1∧v.1≤hi):z69 lo hi [u,v]=true:=kx7 fun w hw=>by
 simp only[List.mem_cons,List.not_mem_nil,or_false] at hw
 rcases hw with rfl|rfl
 ·exact h1
 ·exact h2
theorem q5a {lo hi:Int}(h1:u.1=0∨lo≤u.1∧u.1≤hi):z69 lo hi [u]=true:=kx7 fun w hw=>by
 rw[List.mem_singleton.1 hw];exact h1
theorem qa8.ord {p:Int→Bool}(hu:OfK a u)(hv:OfK b v)(h:a=0∧b≤3∨b=0∧a≤3∨a≤2∧b≤2∨a=3∧b=3):qa8 4 (u74 p u v):=by
 have h1:=hu.1.rng
 have h2:=hv.1.rng
 obtain⟨_,hu⟩:=hu
 obtain⟨_,hv⟩:=hv
 unfold u74
 rw[if_neg]
 ·split
  ·exact .nul
  ·exact .truth _
 rintro⟨c1,c2⟩
 by_cases h3:u.1=3∨v.1=3
 ·rw[q5b (by omega) (by omega)] at c2;cases c2
 ·rw[q5b (by omega) (by omega)] at c1;cases c1
theorem qa8.only {kk:Int}{l:List q00}{G:q03}(h:∀ v∈l,v.1=kk∨v.1=0)(hG:qa8 k G):qa8 k (wl2 kk l G):=by
 unfold wl2
 rw[kx7 fun v hv=>by have:=h v hv;omega,if_neg (by simp)]
 split
 ·exact .nul
 ·exact hG
def Num (k:Int)(r:q00×Int×Unit):Prop:=(r.2.1≠0→r.2.1=9∨r.2.1=10)∧(r.2.1=0→OfK k r.1)
theorem qa8.told {r:q00×Int×Unit}(h:Num k r):qa8 k (z93 r):=by
 unfold z93
 split
 ·rename_i e;exact⟨fun h=>absurd h e,fun _=>⟨rfl,h.1 e⟩⟩
 ·rename_i e;exact .V (h.2 (by omega))
def Er (r:Int×Int×Unit):Prop:=r.2.1=0∨r.2.1=9∨r.2.1=10
theorem Er.intE (n:Int):Er (Abs.xd3 n):=by
 unfold Abs.xd3
 split
 ·exact .inl rfl
 ·exact .inr (.inl rfl)
theorem Er.ite {c:Prop} [Decidable c] {n:Int}:Er (if c then (0,10,()) else Abs.xd3 n):=by
 split
 ·exact .inr (.inr rfl)
 ·exact .intE _
theorem Num.fin {r:Int×Int×Unit}(h:Er r)(hk:k=1∨k=2):Num k (finV k r):=by
 unfold finV
 split
 ·rename_i e;exact⟨fun _=>by rcases h with h|h|h;exact absurd h e;exact .inl h;exact .inr h,fun h=>absurd h e⟩
 ·exact⟨fun h=>absurd rfl h,fun _=>⟨.num hk,.inl rfl⟩⟩
theorem Num.do {g h:Int→Int→Int×Int×Unit}(hg:∀ a b,Er (g a b))(hh:∀ a b,Er (h a b))(hu:u.1=a∨u.1=0)(hv:v.1=b∨v.1=0)(ru:0≤u.1)(rv:0≤v.1)(hk:a≤2∧a≤k∧b≤2∧b≤k∧0≤k∧k≤2∧(k=0∨k=a∨k=b)):Num k (doS g h u v):=by
 have nul:Num k (u39,0,()):=⟨fun h=>absurd rfl h,fun _=>⟨.none,.inr rfl⟩⟩
 unfold doS q7v
 rw[if_neg (by omega)]
 split
 ·exact nul
 split
 ·have:k=1:=by omega
  subst this
  exact .fin (hg _ _) (.inl rfl)
 split
 ·exact⟨fun _=>.inl rfl,fun h=>absurd h (by simp)⟩
 ·have:k=2:=by omega
  subst this
  exact .fin (hh _ _) (.inr rfl)
theorem Num.neg (hu:OfK a u)(ha:a≤2):Num a (negV u):=by
 have h1:=hu.1.rng
 have h2:=hu.2
 by_cases h0:u.1=0
 ·have e:negV u=(u39,0,()):=by
   have e:jl7 (iMin u.1 2) 1=1:=by unfold jl7 iMin;split<;>split<;>omega
   unfold negV
   rw[e]
   unfold doS
   rw[if_neg (by unfold q7v;dsimp only;omega),if_pos (.inr h0)]
  rw[e]
  exact⟨fun h=>absurd rfl h,fun _=>⟨.none,.inr rfl⟩⟩
 ·have e:jl7 (iMin u.1 2) 1=u.1:=by unfold jl7 iMin;split<;>split<;>omega
  unfold negV
  rw[e]
  exact .do (a:=a) (b:=a) (fun _ _=>.intE _) (fun _ _=>.intE _) h2 h2 h1.1 h1.1 (by omega)
theorem qa8.if_ (hx:qa8 a x)(ha:a=4∨a=0)(hy:qa8 k y)(hz:qa8 k z):qa8 k (ifA x y z):=by
 unfold ifA
 rw[hx.tr ha]
 by_cases h1:x.2.1=0
 ·by_cases h2:x.1.1=0
  ·rw[if_pos (.inr h2)]
   exact⟨fun _=>⟨(hx.ok h1).1,.inr h2⟩,hx.err⟩
  ·rw[if_neg (by omega)]
   split
   ·exact hy
   ·exact hz
 ·rw[if_pos (.inl h1)];exact hx.bad h1
end
theorem upB_text {s:List UInt8}(h:xi7 s=true):xi7 (s.map Abs.Upper.upB)=true:=by
 unfold xi7 at *
 simp only[Bool.and_eq_true,decide_eq_true_eq,Bool.not_eq_true',List.any_eq_false,List.length_map,List.mem_map] at *
 refine⟨h.1,?_⟩
 rintro _ ⟨c,hc,rfl⟩
 have hb:=h.2 c hc
 unfold oddB at hb ⊢
 unfold Abs.Upper.upB
 simp only[Bool.or_eq_true,decide_eq_true_eq] at hb ⊢
 split
 ·rw[UInt8.toNat_ofNat'];omega
 ·exact hb
end Go.Proofs.YtgicljncknbgcaaGreat.Abs
