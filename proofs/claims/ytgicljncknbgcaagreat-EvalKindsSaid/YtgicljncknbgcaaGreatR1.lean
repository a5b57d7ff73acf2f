/- The document's lexer: it tells, and where words end. -/
import Derived.Test.YtgicljncknbgcaaGreatL7
import Derived.Test.YtgicljncknbgcaaGreatN1
import Derived.Test.YtgicljncknbgcaaGreatN2
set_option linter.unusedVariables false
set_option linter.unusedSimpArgs false
set_option linter.unusedSectionVars false
namespace Go.Proofs.YtgicljncknbgcaaGreat.Abs
open Go
theorem jn6 (N:Nat)(c:Int):yj0 N c=some (decide (97≤c∧c≤122)):=by
 unfold yj0
 by_cases h:97≤c
 ·by_cases h2:c≤122<;>simp[h,h2]
 ·simp[h]
theorem qy0 (N:Nat)(c:Int):wf6 N c=some (decide (48≤c∧c≤57)):=by
 unfold wf6
 by_cases h:48≤c
 ·by_cases h2:c≤57<;>simp[h,h2]
 ·simp[h]
section
variable {N:Nat} {s:List UInt8} (hN:s.length+10≤N) (hm:s.length≤1000000)
include hN hm
theorem v73 {at_:Int}(h1:0≤at_)(h2:at_≤s.length):Tells (xg3 N s at_) fun r=>at_≤r∧r≤s.length:=by
 unfold xg3 vh8
 have hloop:Tells (q80 (jb5 N s) N at_) fun r=>at_≤r∧r≤s.length:=by
  refine Tells.iter (fun (i:Int)=>at_≤i∧i≤s.length) (fun (i:Int)=>s.length-i.toNat) ?_ N at_ ⟨by omega,h2⟩ (by omega)
  rintro K i ⟨k1,k2⟩ hK
  unfold jb5
  simp only[jn6,qy0,Option.bind_some]
  have next:i<s.length→Tells (K (i+1)) fun r=>at_≤r∧r≤s.length:=fun h=>hK _ ⟨by omega,by omega⟩ (by omega)
  repeat' (first|refine Tells.ok (inI (by omega) (by omega)) ?_|refine Tells.ok (qi0 (by omega) (by omega)) ?_|refine Tells.ok (x61 (by omega) (by omega) (by omega)) ?_|refine Tells.dec (fun _=>?_) (fun _=>?_)|refine Tells.ite (fun _=>?_) (fun _=>?_))
  all_goals first|exact next (by omega)|exact Tells.some ⟨by omega,by omega⟩
 simp only[jn6,Option.bind_some]
 repeat' (first|refine Tells.ok (inI (by omega) (by omega)) ?_|refine Tells.ok (qi0 (by omega) (by omega)) ?_|refine Tells.ok (x61 (by omega) (by omega) (by omega)) ?_|refine Tells.dec (fun _=>?_) (fun _=>?_)|refine Tells.ite (fun _=>?_) (fun _=>?_))
 all_goals first|exact hloop|exact Tells.some ⟨by omega,by omega⟩
theorem vw9 {at_:Int}(h1:0≤at_)(h2:at_<s.length)(hd:48≤q37 s at_∧q37 s at_≤57):Tells (z82 N s at_) fun r=>at_<r∧r≤s.length:=by
 unfold z82 jn1
 have hl2:∀ a:Int,at_<a→a≤s.length→Tells (q80 (w58 N s) N a) fun r=>at_<r∧r≤s.length:=fun a g1 g2=>by
  refine Tells.iter (fun (i:Int)=>at_<i∧i≤s.length) (fun (i:Int)=>s.length-i.toNat) ?_ N a ⟨by omega,g2⟩ (by omega)
  rintro K i ⟨k1,k2⟩ hK
  unfold w58
  simp only[qy0,Option.bind_some]
  have next:i<s.length→Tells (K (i+1)) fun r=>at_<r∧r≤s.length:=fun h=>hK _ ⟨by omega,by omega⟩ (by omega)
  repeat' (first|refine Tells.ok (inI (by omega) (by omega)) ?_|refine Tells.ok (qi0 (by omega) (by omega)) ?_|refine Tells.ok (x61 (by omega) (by omega) (by omega)) ?_|refine Tells.dec (fun _=>?_) (fun _=>?_)|refine Tells.ite (fun _=>?_) (fun _=>?_))
  all_goals first|exact next (by omega)|exact Tells.some ⟨by omega,by omega⟩
 have hl3:∀ a:Int,at_<a→a≤s.length→Tells (q80 (z84 N s) N a) fun r=>at_<r∧r≤s.length:=fun a g1 g2=>by
  refine Tells.iter (fun (i:Int)=>at_<i∧i≤s.length) (fun (i:Int)=>s.length-i.toNat) ?_ N a ⟨by omega,g2⟩ (by omega)
  rintro K i ⟨k1,k2⟩ hK
  unfold z84
  simp only[qy0,Option.bind_some]
  have next:i<s.length→Tells (K (i+1)) fun r=>at_<r∧r≤s.length:=fun h=>hK _ ⟨by omega,by omega⟩ (by omega)
  repeat' (first|refine Tells.ok (inI (by omega) (by omega)) ?_|refine Tells.ok (qi0 (by omega) (by omega)) ?_|refine Tells.ok (x61 (by omega) (by omega) (by omega)) ?_|refine Tells.dec (fun _=>?_) (fun _=>?_)|refine Tells.ite (fun _=>?_) (fun _=>?_))
  all_goals first|exact next (by omega)|exact Tells.some ⟨by omega,by omega⟩
 refine Tells.iter (fun (i:Int)=>at_≤i∧i≤s.length∧(i=at_→48≤q37 s i∧q37 s i≤57)) (fun (i:Int)=>s.length-i.toNat) ?_ N at_ ⟨by omega,by omega,fun _=>hd⟩ (by omega)
 rintro K i ⟨k1,k2,k3⟩ hK
 unfold z83 zn1
 simp only[qy0,Option.bind_some]
 have next:i<s.length→Tells (K (i+1)) fun r=>at_<r∧r≤s.length:=fun h=>hK _ ⟨by omega,by omega,by omega⟩ (by omega)
 repeat' (first|refine Tells.ok (inI (by omega) (by omega)) ?_|refine Tells.ok (qi0 (by omega) (by omega)) ?_|refine Tells.ok (x61 (by omega) (by omega) (by omega)) ?_|refine Tells.dec (fun _=>?_) (fun _=>?_)|refine Tells.ite (fun _=>?_) (fun _=>?_))
 all_goals first|exact next (by omega)|exact Tells.some ⟨by omega,by omega⟩|exact hl2 _ (by omega) (by omega)|exact hl3 _ (by omega) (by omega)
theorem vx2 {at_:Int}(h1:0≤at_)(h2:at_<s.length):Tells (we2 N s at_) fun r=>r=-1∨(at_+2≤r∧r≤s.length):=by
 unfold we2 jn3
 refine Tells.ok (inI (by omega) (by omega)) ?_
 refine Tells.iter (fun (i:Int)=>at_<i∧i≤s.length+1) (fun (i:Int)=>s.length+1-i.toNat) ?_ N (at_+1) ⟨by omega,by omega⟩ (by omega)
 rintro K i ⟨k1,k2⟩ hK
 unfold j03
 have next:i<s.length→Tells (K (i+1)) fun r=>r=-1∨(at_+2≤r∧r≤s.length):=fun h=>hK _ ⟨by omega,by omega⟩ (by omega)
 have next2:i<s.length→Tells (K (i+1+1)) fun r=>r=-1∨(at_+2≤r∧r≤s.length):=fun h=>hK _ ⟨by omega,by omega⟩ (by omega)
 repeat' (first|refine Tells.ok (inI (by omega) (by omega)) ?_|refine Tells.ok (qi0 (by omega) (by omega)) ?_|refine Tells.ok (x61 (by omega) (by omega) (by omega)) ?_|refine Tells.dec (fun _=>?_) (fun _=>?_)|refine Tells.ite (fun _=>?_) (fun _=>?_))
 all_goals first|exact next (by omega)|exact next2 (by omega)|exact Tells.some (by omega)
theorem vx7 {at_:Int}(h1:0≤at_)(h2:at_<s.length):Tells (z87 N s at_) fun r=>r=-1∨(at_<r∧r≤s.length):=by
 unfold z87 jn5
 simp only[q95 (show 0<N by omega)]
 have hb:Tells (wk5 N s at_ ()) fun r=>r=-1∨(at_<r∧r≤s.length):=by
  unfold wk5
  repeat' (first|refine Tells.ok (inI (by omega) (by omega)) ?_|refine Tells.ok (qi0 (by omega) (by omega)) ?_|refine Tells.ok (x61 (by omega) (by omega) (by omega)) ?_|refine Tells.dec (fun _=>?_) (fun _=>?_)|refine Tells.ite (fun _=>?_) (fun _=>?_))
  all_goals exact Tells.some (by omega)
 repeat' (first|refine Tells.ok (inI (by omega) (by omega)) ?_|refine Tells.ok (qi0 (by omega) (by omega)) ?_|refine Tells.ok (x61 (by omega) (by omega) (by omega)) ?_|refine Tells.dec (fun _=>?_) (fun _=>?_)|refine Tells.ite (fun _=>?_) (fun _=>?_))
 all_goals first|exact hb|exact Tells.some (by omega)
end
section
variable {N:Nat} {s:List UInt8} (hN:s.length+10≤N) (hm:s.length≤1000000)
include hN hm
theorem ub3 :Tells (yi7 N s) fun r=>r.length≤s.length:=by
 unfold yi7 xt5
 have hc:∀ a b:List UInt8,a.length≤1000001→b.length≤1000001→qj1 a b=true:=fun a b h1 h2=>by
  rw[x82];omega
 refine Tells.iter (fun (e:List UInt8×Int)=>(e.1.length:Int)<e.2∧1≤e.2∧e.2≤s.length+1) (fun (e:List UInt8×Int)=>s.length+1-e.2.toNat) ?_ N ([],1) ⟨by simp,by simp,by simp;omega⟩ (by simp;omega)
 rintro K ⟨out,i⟩ ⟨k1,k2,k3⟩ hK
 dsimp only at k1 k2 k3 hK
 unfold x11
 have sl:∀ a b:Int,0≤a→a≤b→b≤s.length→(((s.take b.toNat).drop a.toNat).length:Int)=b-a:=fun a b h1 h2 h3=>by simp;omega
 have n1:i+1<s.length→Tells (K ((out++((s.take (i+1).toNat).drop i.toNat)),i+1)) fun r=>r.length≤s.length:=fun h=>by
  have:=sl i (i+1) (by omega) (by omega) (by omega)
  exact hK _ ⟨by simp only[List.length_append,Int.natCast_add];omega,by dsimp only;omega,by dsimp only;omega⟩ (by dsimp only;omega)
 have n2:i+1<s.length→Tells (K ((out++((s.take ((i+1)+1).toNat).drop (i+1).toNat)),(i+1)+1)) fun r=>r.length≤s.length:=fun h=>by
  have:=sl (i+1) (i+1+1) (by omega) (by omega) (by omega)
  exact hK _ ⟨by simp only[List.length_append,Int.natCast_add];omega,by dsimp only;omega,by dsimp only;omega⟩ (by dsimp only;omega)
 have c1:i+1<s.length→qj1 out ((s.take (i+1).toNat).drop i.toNat)=true:=fun h=>hc _ _ (by omega) (by have:=sl i (i+1) (by omega) (by omega) (by omega);omega)
 have c2:i+1<s.length→qj1 out ((s.take ((i+1)+1).toNat).drop (i+1).toNat)=true:=fun h=>hc _ _ (by omega) (by have:=sl (i+1) (i+1+1) (by omega) (by omega) (by omega);omega)
 repeat' first|refine Tells.ok (c1 (by omega)) ?_|refine Tells.ok (c2 (by omega)) ?_|(first|refine Tells.ok (inI (by omega) (by omega)) ?_|refine Tells.ok (qi0 (by omega) (by omega)) ?_|refine Tells.ok (x61 (by omega) (by omega) (by omega)) ?_|refine Tells.dec (fun _=>?_) (fun _=>?_)|refine Tells.ite (fun _=>?_) (fun _=>?_))
 all_goals first|exact n1 (by omega)|exact n2 (by omega)|exact Tells.some (by omega)
end
def w2l (x:qa3)(n:Nat):Prop:=∃ v,Can x v n
section
variable {M N:Nat} {s:List UInt8} (hN:100000≤M) (hl:M≤N∧M≤1000000000) (hm:s.length≤500)
include hN hl hm
theorem num_B2 {point first:Int}{neg:Bool}{a:Bool}{b:List Int}(hp:point≤s.length)(hf:0≤first)(hf2:first≤point){n:Int}{x:qa3}(h0:0≤n)(h1:n≤4)(hx:w2l x (7*502)):
  Tells (q80 (zz6 N s point neg first a b) N (n,x.1,x.2.1)) fun r=>w2l r.1 (7*510):=by
 refine Tells.iter (fun (e:Int×Bool×List Int)=>0≤e.1∧e.1≤4∧∃ k:Nat,w2l (e.2.1,e.2.2,()) k∧(k:Int)≤7*(502+e.1)) (fun (e:Int×Bool×List Int)=>4-e.1.toNat) ?_ N _ ⟨h0,h1,7*502,hx,by dsimp only;omega⟩ (by dsimp only;omega)
 rintro K ⟨n,g,d⟩ ⟨k1,k2,k,⟨v,hv⟩,hk⟩ hK
 dsimp only at k1 k2 hv hk hK
 unfold zz6
 have fin:∀ p q:Bool,Tells (some ((g,d,()),p,q,())) fun (r:qa3×Bool×Bool×Unit)=>w2l r.1 (7*510):=fun p q=>Tells.some ⟨v,hv.mono (by omega)⟩
 have neg':∀ p q:Bool,Tells ((wo8 N (g,d,())).bind fun (r14:qa3)=>some (r14,p,q,())) fun (r:qa3×Bool×Bool×Unit)=>w2l r.1 (7*510):=fun p q=>Tells.bind (yb1 hv (by omega) hl) fun r hr=>Tells.some ⟨_,hr.mono (by omega)⟩
 refine Tells.dec (fun c=>?_) (fun c=>?_)
 ·refine Tells.bind (qr2 (n:=10) (by omega) (by omega) (by omega)) fun u hu=>Tells.bind (zz3 hv hu (by omega) hl) fun r hr=>?_
  refine Tells.ok (inI (by omega) (by omega)) ?_
  exact hK _ ⟨by dsimp only;omega,by dsimp only;omega,k+5+1,⟨_,hr⟩,by dsimp only;omega⟩ (by dsimp only;omega)
 ·refine Tells.ite (fun _=>fin _ _) (fun c2=>?_)
  have c3:point≠first:=by simpa using c2
  repeat' (first|refine Tells.ok (inI (by omega) (by omega)) ?_|refine Tells.ok (qi0 (by omega) (by omega)) ?_|refine Tells.ok (x61 (by omega) (by omega) (by omega)) ?_|refine Tells.dec (fun _=>?_) (fun _=>?_)|refine Tells.ite (fun _=>?_) (fun _=>?_))
  all_goals first|exact fin _ _|exact neg' _ _
end
section
variable {M N:Nat} {s:List UInt8} (hN:100000≤M) (hl:M≤N∧M≤1000000000) (hm:s.length≤500)
include hN hl hm
theorem num_B1 {first : Int} {neg : Bool} {a : Bool} {b : List Int} (hf : first = 0 ∨ first = 1) (hs : first ≤ s.length) :
    Tells (q80 (w57 N s neg first a b) N (first, -1, false, [])) fun r => w2l r.1 (7 * 510) := by
  refine Tells.iter (fun (e : Int × Int × Bool × List Int) => first ≤ e.1 ∧ e.1 ≤ s.length ∧ (e.2.1 = -1 ∨ (first < e.2.1 ∧ e.2.1 < e.1)) ∧ ∃ k : Nat, w2l (e.2.2.1, e.2.2.2, ()) k ∧ (k : Int) ≤ 7 * e.1) (fun (e : Int × Int × Bool × List Int) => s.length - e.1.toNat) ?_ N _ ⟨by dsimp only; omega, by dsimp only; omega, .inl rfl, 0, ⟨0, ⟨(fun d h => by cases h), by simp [Nrm], by simp, by simp [vl], by simp⟩⟩, by dsimp only; omega⟩ (by dsimp only; omega)
  rintro K ⟨at_, point, g, d⟩ ⟨k1, k2, k3, k, ⟨v, hv⟩, hk⟩ hK
  dsimp only at k1 k2 k3 hv hk hK
  unfold w57 jm7
  have fin : ∀ p q : Bool, Tells (some ((g, d, ()), p, q, ())) fun (r : qa3 × Bool × Bool × Unit) => w2l r.1 (7 * 510) := fun p q => Tells.some ⟨v, hv.mono (by omega)⟩
  have neg' : ∀ p q : Bool, Tells ((wo8 N (g, d, ())).bind fun (r14 : qa3) => some (r14, p, q, ())) fun (r : qa3 × Bool × Bool × Unit) => w2l r.1 (7 * 510) := fun p q => Tells.bind (yb1 hv (by omega) hl) fun r hr => Tells.some ⟨_, hr.mono (by omega)⟩
  have dig : at_ < s.length → 48 ≤ q37 s at_ → q37 s at_ ≤ 57 → Tells ((w23 N 10).bind fun (r8 : qa3) =>
            (wk0 N (g, d, ()) r8).bind fun (r9 : qa3) =>
            bif inR at_ s.length then
            bif q24 (IntKind.u8.wrap ((q37 s at_) - 48)) then
            (w23 N (IntKind.u8.wrap ((q37 s at_) - 48))).bind fun (r10 : qa3) =>
            (zt6 N r9 r10).bind fun (r11 : qa3) =>
            bif q24 (at_ + 1) then
            K (at_ + 1, point, r11.1, r11.2.1)
            else none
            else none
            else none) fun (r : qa3 × Bool × Bool × Unit) => w2l r.1 (7 * 510) := fun c1 c2 c3 => by
    have hw : IntKind.u8.wrap ((q37 s at_) - 48) = q37 s at_ - 48 := by rw [IntKind.wrap_u8]; omega
    rw [hw]
    refine Tells.bind (qr2 (n := 10) (by omega) (by omega) (by omega)) fun u hu => Tells.bind (zz3 hv hu (by omega) hl) fun r hr => ?_
    refine Tells.ok (qi0 (by omega) (by omega)) ?_
    refine Tells.ok (inI (by omega) (by omega)) ?_
    refine Tells.bind (qr2 (by omega) (by omega) (by omega)) fun u2 hu2 => Tells.bind (v46 hr hu2 (by omega) hl) fun r2 hr2 => ?_
    refine Tells.ok (inI (by omega) (by omega)) ?_
    exact hK _ ⟨by dsimp only; omega, by dsimp only; omega, by dsimp only; omega, _, ⟨_, hr2⟩, by dsimp only; omega⟩ (by dsimp only; omega)
  have next : at_ < s.length → at_ > first → Tells (K (at_ + 1, at_, g, d)) fun (r : qa3 × Bool × Bool × Unit) => w2l r.1 (7 * 510) := fun c1 c2 =>
    hK _ ⟨by dsimp only; omega, by dsimp only; omega, .inr ⟨by dsimp only; omega, by dsimp only; omega⟩, k, ⟨v, hv⟩, by dsimp only; omega⟩ (by dsimp only; omega)
  refine Tells.dec (fun c => ?_) (fun c => ?_)
  · repeat' first | exact dig (by omega) (by omega) (by omega) | (first | refine Tells.ok (inI (by omega) (by omega)) ?_ | refine Tells.ok (qi0 (by omega) (by omega)) ?_ | refine Tells.ok (x61 (by omega) (by omega) (by omega)) ?_ | refine Tells.dec (fun _ => ?_) (fun _ => ?_) | refine Tells.ite (fun _ => ?_) (fun _ => ?_))
    all_goals first | exact next (by omega) (by omega) | exact fin _ _
  · refine Tells.dec (fun c2 => ?_) (fun c2 => ?_)
    · refine Tells.ok (inI (by omega) (by omega)) (Tells.ok (inI (by omega) (by omega)) ?_)
      refine Tells.dec (fun c3 => fin _ _) fun c3 => Tells.dec (fun c4 => fin _ _) fun c4 => ?_
      exact num_B2 hN hl hm (by omega) (by omega) (by omega) (x := (g, d, ())) (by omega) (by omega) ⟨v, hv.mono (by omega)⟩
    · refine Tells.ite (fun _ => fin _ _) (fun c3 => ?_)
      have c3 : (s.length : Int) ≠ first := by simpa using c3
      repeat' (first | refine Tells.ok (inI (by omega) (by omega)) ?_ | refine Tells.ok (qi0 (by omega) (by omega)) ?_ | refine Tells.ok (x61 (by omega) (by omega) (by omega)) ?_ | refine Tells.dec (fun _ => ?_) (fun _ => ?_) | refine Tells.ite (fun _ => ?_) (fun _ => ?_))
      all_goals first | exact fin _ _ | exact neg' _ _
theorem vv9 :Tells (ja8 N s) fun r=>w2l r.1 (7*510):=by
 have e1:@zz7=@w57:=rfl
 have e2:@zz8=@w57:=rfl
 unfold ja8 x15
 rw[e1,e2]
 refine Tells.dec (fun c=>?_) (fun c=>num_B1 hN hl hm (.inl rfl) (by omega))
 refine Tells.ok (qi0 (by omega) (by omega)) ?_
 exact Tells.ite (fun _=>num_B1 hN hl hm (.inr rfl) (by omega)) (fun _=>num_B1 hN hl hm (.inl rfl) (by omega))
omit hm in
theorem yb9 {x:qa3}{v:Int}(hx:Can x v 11)(hv:v.natAbs≤10000000000000000000){least:Int}(h1:1≤least)(h2:least≤5):Tells (wp0 N x least) fun r=>least≤r.length∧r.length≤25:=by
 unfold wp0 x10
 refine Tells.iter (fun (e:List UInt8×Bool×List Int)=>e.1.length≤25∧∃ w:Int,Can (e.2.1,e.2.2,()) w 11∧0≤w∧w*10 ^ e.1.length≤10000000000000000000) (fun (e:List UInt8×Bool×List Int)=>30-e.1.length) ?_ N _ ⟨by simp,v.natAbs,⟨hx.dig,hx.nrm,hx.len,by rw[hx.val];simp,by simp⟩,by omega,by simp;omega⟩ (by dsimp only;omega)
 rintro K ⟨s,g,d⟩ ⟨k1,w,hw,k2,k3⟩ hK
 dsimp only at k1 k2 k3 hw hK
 unfold yb6
 have hlen:s.length≤19∨w=0:=by
  rcases Nat.lt_or_ge s.length 20 with h|h
  ·exact .inl (by omega)
  ·refine .inr ?_
   have h3:(10:Int) ^ 20≤10 ^ s.length:=by
    exact_mod_cast Nat.pow_le_pow_right (by omega:10>0) h
   rcases Int.lt_or_le 0 w with h4|h4
   ·exfalso
    have h5:(10:Int) ^ s.length≤w*10 ^ s.length:=by
     have:=Int.mul_le_mul_of_nonneg_right (show (1:Int)≤w by omega) (show (0:Int)≤10 ^ s.length by omega)
     simpa using this
    have h6:(10:Int) ^ 20=100000000000000000000  :=by decide
    rw[h6] at h3
    omega
   ·omega
 have hz:d.length=0↔w=0:=by
  have e1:=q3t hw.dig hw.nrm
  have e2:=hw.val
  constructor
  ·intro h
   have:d=[]:=List.eq_nil_of_length_eq_zero h
   have:=e1.2 this
   dsimp only at e2 this
   omega
  ·intro h
   have:vl d=0:=by dsimp only at e2;rw[e2,h];rfl
   rw[show d=[] from e1.1 this];rfl
 have main:s.length<25→Tells ((w23 N 10).bind fun (r:qa3) =>
   (v51 N (g,d,()) r).bind fun (r1:qa3×qa3×Unit) =>
   bif decide ((r1.2.1.2.1.length:Int)>0) then
    bif inR 0 r1.2.1.2.1.length then
    bif q24 (48+(q17 r1.2.1.2.1 0 0)) then
    bif qj1 (w02 [(IntKind.u8.wrap (48+(q17 r1.2.1.2.1 0 0)))]) s then
    K (((w02 [(IntKind.u8.wrap (48+(q17 r1.2.1.2.1 0 0)))])++s),r1.1.1,r1.1.2.1)
    else none
    else none
    else none
   else
    bif qj1 (w02 [(IntKind.u8.wrap 48)]) s then
    K (((w02 [(IntKind.u8.wrap 48)])++s),r1.1.1,r1.1.2.1)
    else none) fun r=>least≤r.length∧r.length≤25:=fun hs=>by
  refine Tells.bind (qr2 (n:=10) (by omega) (by omega) (by omega)) fun u hu=>Tells.bind (ki2 hw hu (by omega) (by omega) hl) fun r hr=>?_
  obtain⟨⟨q1,q2,_⟩,⟨m1,m2,_⟩,_⟩:=r
  obtain⟨hq,hr⟩:=hr
  dsimp only at hq hr ⊢
  have hI:∀ y:List UInt8,y.length=s.length+1→Tells (K (y,q1,q2)) fun r=>least≤r.length∧r.length≤25:=fun y hy=>by
   refine hK _ ⟨by dsimp only;omega,_,hq,Int.tdiv_nonneg k2 (by omega),?_⟩ (by dsimp only;omega)
   dsimp only
   rw[hy,Int.pow_succ]
   rw[xz5 k2]
   have h3:w/10*10≤w:=Int.ediv_mul_le w (by omega)
   have h4:(0:Int)≤10 ^ s.length:=Int.pow_nonneg (by omega)
   have h5:=Int.mul_le_mul_of_nonneg_right h3 h4
   have h6:w/10*(10 ^ s.length*10)=w/10*10*10 ^ s.length:=by rw[Int.mul_assoc,Int.mul_comm (10 ^ s.length)]
   omega
  have hc:∀ b:Int,qj1 (w02 [b]) s=true:=fun b=>by rw[x82];simp[w02];omega
  have hb:∀ b:Int,(w02 [b]++s).length=s.length+1:=fun b=>by simp[w02]
  refine Tells.dec (fun c=>?_) (fun c=>?_)
  ·have h0:=(Dig.nth hr.dig 0)
   dsimp only at h0
   refine Tells.ok (qi0 (by omega) (by omega)) (Tells.ok (inI (by omega) (by omega)) (Tells.ok (hc _) (hI _ (hb _))))
  ·exact Tells.ok (hc _) (hI _ (hb _))
 refine Tells.dec (fun c=>main (by omega)) (fun c=>Tells.dec (fun c2=>main (by omega)) (fun c2=>Tells.some ⟨by omega,k1⟩))
end
theorem slen {s:List UInt8}{a b:Int}(h1:0≤a)(h2:a≤b)(h3:b≤s.length):(((s.take b.toNat).drop a.toNat).length:Int)=b-a:=by simp;omega
theorem yk8 {a b:List UInt8}(h1:a.length≤1000001)(h2:b.length≤1000001):qj1 a b=true:=by rw[x82];omega
abbrev VOK (n:Nat)(v:q00):Prop:=0≤v.1∧v.1≤255∧I64 v.2.1∧v.2.2.1.length≤n
section
variable {M N:Nat} (hN:100000≤M) (hl:M≤N∧M≤1000000000)
include hN hl
theorem k02 {v:q00}(hv:VOK 500 v):Tells (jm2 N v) fun _=>True:=by
 obtain⟨k,n,s,u⟩:=v
 obtain⟨h1,h2,h3,h4⟩:=hv
 dsimp only at h1 h2 h3 h4
 unfold jm2 xf4
 obtain⟨r,_,hmay⟩:=x63 N (k,n,s,u) (by dsimp only;omega) (by dsimp only;omega) (by omega)
 refine Tells.bindE hmay ?_
 refine Tells.ite (fun _=>Tells.some trivial) (fun _=>?_)
 dsimp only
 refine Tells.bind (qr2 h3.1 h3.2 (by omega)) fun x hx=>?_
 obtain⟨g,d,_⟩:=x
 dsimp only
 have main:∀ sign:List UInt8,sign.length≤1→Tells (at1 N (wu9 N k n s g d sign)) fun _=>True:=fun sign hs=>by
  rw[q95 (by omega)]
  unfold wu9 jm3
  dsimp only
  have dg:∀ least:Int,1≤least→least≤5→Tells (wp0 N (g,d,()) least) fun r=>least≤r.length∧r.length≤25:=fun least l1 l2 =>
   yb9 (M:=M) hN hl (hx.mono (by omega)) (by have:=h3.1;have:=h3.2;omega) l1 l2
  refine Tells.ite (fun _=>Tells.some trivial) (fun _=>Tells.ite (fun _=>?_) (fun _=>Tells.ite (fun _=>?_) (fun _=>Tells.ite (fun _=>?_) (fun _=>Tells.ite (fun _=>?_) (fun _=>?_)))))
  ·refine Tells.bind (dg 1 (by omega) (by omega)) fun r hr=>Tells.ok (yk8 (by omega) (by omega)) (Tells.some trivial)
  ·refine Tells.bind (dg 5 (by omega) (by omega)) fun r hr=>?_
   refine Tells.iter (fun (e:Int)=>(r.length:Int)-3≤e∧e≤r.length) (fun (e:Int)=>e.toNat) ?_ N _ ⟨by omega,by omega⟩ (by omega)
   rintro K e ⟨k1,k2⟩ hK
   unfold yi5
   dsimp only
   have q1:((r.take ((r.length:Int)-4).toNat).length)≤25:=by simp;omega
   have q2:=slen (s:=r) (a:=(r.length:Int)-4) (b:=e) (by omega) (by omega) (by omega)
   have fin:Tells (bif q24 ((r.length:Int)-4) then
   bif upTo ((r.length:Int)-4) r.length then
   bif qj1 sign (r.take ((r.length:Int)-4).toNat) then
   bif qj1 (sign++(r.take ((r.length:Int)-4).toNat)) ([46]:List UInt8) then
   bif q24 ((r.length:Int)-4) then
   bif inB ((r.length:Int)-4) e r.length then
   bif qj1 ((sign++(r.take ((r.length:Int)-4).toNat))++([46]:List UInt8)) ((r.take e.toNat).drop ((r.length:Int)-4).toNat) then
   some (((sign++(r.take ((r.length:Int)-4).toNat))++([46]:List UInt8))++((r.take e.toNat).drop ((r.length:Int)-4).toNat))
   else none
   else none
   else none
   else none
   else none
   else none
   else none) fun _=>True:=by
    refine Tells.ok (inI (by omega) (by omega)) (Tells.ok (w2d (by omega) (by omega)) (Tells.ok (yk8 (by omega) (by omega)) (Tells.ok (yk8 (by rw[List.length_append];omega) (by simp)) (Tells.ok (inI (by omega) (by omega)) (Tells.ok (x61 (by omega) (by omega) (by omega)) (Tells.ok (yk8 (by rw[List.length_append,List.length_append];simp only[List.length_cons,List.length_nil];omega) (by omega)) (Tells.some trivial)))))))
   refine Tells.ok (inI (by omega) (by omega)) (Tells.dec (fun c=>?_) (fun c=>fin))
   refine Tells.ok (inI (by omega) (by omega)) (Tells.ok (qi0 (by omega) (by omega)) (Tells.ite (fun _=>?_) (fun _=>fin)))
   exact Tells.ok (inI (by omega) (by omega)) (hK _ ⟨by omega,by omega⟩ (by omega))
  ·exact Tells.ite (fun _=>Tells.some trivial) (fun _=>Tells.some trivial)
  ·exact Tells.ok (yk8 (by simp) (by omega)) (Tells.some trivial)
  ·refine Tells.iter (fun (e:List UInt8×Int)=>0≤e.2∧e.2≤s.length∧(e.1.length:Int)≤1+2*e.2) (fun (e:List UInt8×Int)=>s.length-e.2.toNat) ?_ N _ ⟨by simp,by simp,by simp⟩ (by dsimp only;omega)
   rintro K ⟨o,i⟩ ⟨k1,k2,k3⟩ hK
   dsimp only at k1 k2 k3 hK
   unfold ja7 jm4
   dsimp only
   have hb5:i<s.length→∀ o:List UInt8,(o.length:Int)≤2+2*i→Tells (at1 N (wv1 N i k n s g d K o)) fun _=>True:=fun c o ho=>by
    rw[q95 (by omega)]
    unfold wv1
    have q2:=slen (s:=s) (a:=i) (b:=i+1) (by omega) (by omega) (by omega)
    refine Tells.ok (inI (by omega) (by omega)) (Tells.ok (x61 (by omega) (by omega) (by omega)) (Tells.ok (yk8 (by omega) (by omega)) (Tells.ok (inI (by omega) (by omega)) (hK _ ⟨by dsimp only;omega,by dsimp only;omega,?_⟩ (by dsimp only;omega)))))
    dsimp only
    rw[List.length_append]
    omega
   have hb4:i<s.length→Tells (at1 N (wv0 N o i k n s g d K ())) fun _=>True:=fun c=>by
    rw[q95 (by omega)]
    unfold wv0 jm5
    refine Tells.ok (yk8 (by omega) (by simp)) (hb5 c _ ?_)
    simp only[List.length_append,List.length_cons,List.length_nil]
    omega
   refine Tells.dec (fun c=>?_) (fun c=>Tells.ok (yk8 (by omega) (by simp)) (Tells.some trivial))
   refine Tells.ok (qi0 (by omega) (by omega)) (Tells.ite (fun _=>hb4 c) (fun _=>Tells.ok (qi0 (by omega) (by omega)) (Tells.ite (fun _=>hb4 c) (fun _=>hb5 c _ (by omega)))))
 exact Tells.ite (fun _=>main _ (by simp)) (fun _=>main _ (by simp))
theorem May_tells {v:q00}(hv:VOK 500 v):Tells (zl0 N v) fun _=>True:=by
 obtain⟨r,_,h⟩:=x63 N v (by have:=hv.2.2.2;omega) (by have:=hv.2.2.2;omega) (by omega)
 exact⟨r,h,trivial⟩
theorem xf2 {s:List UInt8}:Tells (w73 N s) fun r=>VOK s.length r.1∧(r.1=(0,0,[],())∨zl0 N r.1=some true):=by
 unfold w73 yi4
 refine Tells.dec (fun c=>Tells.some ⟨⟨by simp,by simp,⟨by simp,by simp⟩,by simp⟩,.inl rfl⟩) (fun hs=>?_)
 refine Tells.bind (vv9 hN hl (by omega)) fun x hx=>?_
 obtain⟨⟨g,d,_⟩,point,ok,_⟩:=x
 dsimp only at hx ⊢
 have none':∀ e:Int,Tells (some (((0,0,[],()),e,()):q00×Int×Unit)) fun r=>VOK s.length r.1∧(r.1=(0,0,[],())∨zl0 N r.1=some true):=fun e=>Tells.some ⟨⟨by simp,by simp,⟨by simp,by simp⟩,by simp⟩,.inl rfl⟩
 have b2:∀ (k n:Int) (t:List UInt8),VOK s.length (k,n,t,())→Tells (at1 N (wi4 N s (k,n,t,g,d))) fun r=>VOK s.length r.1∧(r.1=(0,0,[],())∨zl0 N r.1=some true):=fun k n t hv=>by
  rw[q95 (by omega)]
  unfold wi4
  dsimp only
  have hv':VOK 500 (k,n,t,()):=⟨hv.1,hv.2.1,hv.2.2.1,by have:=hv.2.2.2;omega⟩
  obtain⟨mr,hm,_⟩:=May_tells hN hl hv'
  refine Tells.bindE hm (Tells.ite (fun _=>none' _) fun hmr=>?_)
  exact Tells.bind (k02 hN hl hv') fun r _=>Tells.ite (fun _=>none' _) fun _=>Tells.some ⟨hv,.inr (by rw[hm];cases mr;cases hmr;rfl)⟩
 have b4:Tells (at1 N (zu3 N s point ok g d ())) fun r=>VOK s.length r.1∧(r.1=(0,0,[],())∨zl0 N r.1=some true):=by
  rw[q95 (by omega)]
  unfold zu3 yb5
  refine Tells.ite (fun _=>?_) (fun _=>none' _)
  obtain⟨v,hx⟩:=hx
  refine Tells.bind (kh4 hx (by omega) hl) fun r hr=>?_
  refine Tells.ite (fun _=>none' _) (fun c=>?_)
  have hi:I64 r.1:=by
   rw[hr]
   unfold xd3
   split
   ·rename_i h;exact h
   ·exact⟨by simp,by simp⟩
  exact Tells.ite (fun _=>b2 _ _ _ ⟨by simp,by simp,hi,by simp⟩) (fun _=>b2 _ _ _ ⟨by simp,by simp,hi,by simp⟩)
 have b3:Tells (at1 N (zu2 N s point ok g d ())) fun r=>VOK s.length r.1∧(r.1=(0,0,[],())∨zl0 N r.1=some true):=by
  rw[q95 (by omega)]
  unfold zu2 yb4
  refine Tells.dec (fun c=>?_) (fun _=>b4)
  refine Tells.ok (qi0 (by omega) (by omega)) (Tells.ite (fun _=>?_) (fun _=>b4))
  exact Tells.bind (ub3 (by omega) (by omega)) fun r hr=>b2 _ _ _ ⟨by simp,by simp,⟨by simp,by simp⟩,hr⟩
 have b1:Tells (at1 N (zu1 N s g d ())) fun r=>VOK s.length r.1∧(r.1=(0,0,[],())∨zl0 N r.1=some true):=by
  rw[q95 (by omega)]
  unfold zu1 yb3
  refine Tells.bind (Q:=fun r=>r=(4,1,[],())∨r=(4,0,[],())) ?_ fun r hr=>?_
  ·unfold vh6
   exact Tells.ite (fun _=>Tells.some (.inl rfl)) (fun _=>Tells.some (.inr rfl))
  ·rcases hr with rfl|rfl<;>exact b2 _ _ _ ⟨by simp,by simp,⟨by simp,by simp⟩,by simp⟩
 refine Tells.ite (fun _=>b1) fun _=>Tells.ite (fun _=>b1) fun _=>Tells.ite (fun _=>b2 _ _ _ ⟨by simp,by simp,⟨by simp,by simp⟩,by simp⟩) fun _=>Tells.dec (fun c=>?_) (fun _=>b3)
 refine Tells.ok (qi0 (by omega) (by omega)) (Tells.ite (fun _=>?_) (fun _=>b3))
 refine Tells.ok (w2d (by omega) (by omega)) (b2 _ _ _ ⟨by simp,by simp,⟨by simp,by simp⟩,?_⟩)
 simp
theorem yt0 {s:List UInt8}:Tells (w73 N s) fun r=>VOK s.length r.1:=(xf2 hN hl).mono fun _ h=>h.1
end
structure kv6 (n:Nat) (t:q39):Prop where
 kind:1≤t.1∧t.1≤7
 text:t.2.1.length≤n
 val:VOK n t.2.2.1
section
variable {M N:Nat} {s:List UInt8} (hN:100000≤M) (hl:M≤N∧M≤1000000000) (hm:s.length≤65536)
include hN hl hm
theorem k09 {at_:Int}(h1:0≤at_)(h2:at_<s.length):Tells (jm8 N s at_) fun r=>r.2.2.1=0→kv6 s.length r.1∧at_<r.2.1∧r.2.1≤s.length:=by
 unfold jm8 xg0
 have bad:∀ e:Int,e≠0→Tells (some (((0,[],(0,0,[],()),(0,0,()),()),0,e,()):q39×Int×Int×Unit)) fun r=>r.2.2.1=0→kv6 s.length r.1∧at_<r.2.1∧r.2.1≤s.length:=fun e h=>Tells.some fun h'=>absurd h' h
 have good:∀ (k:Int) (t:List UInt8) (v:q00) (e:Int),1≤k∧k≤7→t.length≤s.length→VOK s.length v→at_<e∧e≤s.length→Tells (some ((k,t,v,(0,0,()),()),e,0,()):Option (q39×Int×Int×Unit)) fun r=>r.2.2.1=0→kv6 s.length r.1∧at_<r.2.1∧r.2.1≤s.length:=fun k t v e h1 h2 h3 h4=>Tells.some fun _=>⟨⟨h1,h2,h3⟩,h4⟩
 have nov:VOK s.length (0,0,[],()):=⟨by simp,by simp,⟨by simp,by simp⟩,by simp⟩
 have sl:∀ a b:Int,0≤a→a≤b→b≤s.length→((s.take b.toNat).drop a.toNat).length≤s.length:=fun a b g1 g2 g3=>by have:=slen (s:=s) g1 g2 g3;omega
 have b1:Tells (at1 N (wv2 N s at_ (q37 s at_) ())) fun r=>r.2.2.1=0→kv6 s.length r.1∧at_<r.2.1∧r.2.1≤s.length:=by
  rw[q95 (by omega)]
  unfold wv2 jm9
  refine Tells.ok (inI (by omega) (by omega)) (Tells.bind (v73 (by omega) (by omega) (by omega) (by omega)) fun r hr=>?_)
  refine Tells.ok (inI (by omega) (by omega)) (Tells.ok (x61 (by omega) (by omega) (by omega)) ?_)
  have hs:=sl (at_+1) r (by omega) (by omega) (by omega)
  generalize (s.take r.toNat).drop (at_+1).toNat=name at hs ⊢
  have b2:Tells (at1 N (jb4 N (q37 s at_) r name ())) fun r=>r.2.2.1=0→kv6 s.length r.1∧at_<r.2.1∧r.2.1≤s.length:=by
   rw[q95 (by omega)]
   unfold jb4
   refine Tells.ite (fun _=>good _ _ _ _ (by omega) hs ⟨by simp,by simp,⟨by simp,by simp⟩,hs⟩ (by omega)) fun _=>Tells.ite (fun _=>good _ _ _ _ (by omega) (by simp) nov (by omega)) fun _=>good _ _ _ _ (by omega) hs nov (by omega)
  refine Tells.dec (fun _=>bad _ (by omega)) fun _=>Tells.ite (fun _=>Tells.ite (fun _=>bad _ (by omega)) fun _=>b2) fun _=>b2
 refine Tells.ok (qi0 (by omega) (by omega)) (Tells.bind (v73 (by omega) (by omega) (by omega) (by omega)) fun r hr=>?_)
 refine Tells.dec (fun c=>?_) (fun c=>?_)
 ·refine Tells.ok (inI (by omega) (by omega)) (Tells.dec (fun _=>bad _ (by omega)) fun _=>Tells.ok (x61 (by omega) (by omega) (by omega)) (good _ _ _ _ (by omega) (sl _ _ (by omega) (by omega) (by omega)) nov (by omega)))
 refine Tells.ite (fun _=>b1) fun _=>Tells.ite (fun _=>b1) fun _=>?_
 rw[qy0,Option.bind_some]
 refine Tells.dec (fun c2=>?_) (fun c2=>Tells.ite (fun c3=>?_) (fun c3=>?_))
 ·refine Tells.bind (vw9 (by omega) (by omega) (by omega) (by omega) c2) fun e he=>?_
  refine Tells.ok (x61 (by omega) (by omega) (by omega)) (Tells.bind (yt0 hN hl) fun v hv=>?_)
  have hs:=sl at_ e (by omega) (by omega) (by omega)
  refine Tells.ite (fun c4=>?_) fun _=>Tells.ite (fun _=>bad _ (by omega)) fun _=>Tells.ok (x61 (by omega) (by omega) (by omega)) (good _ _ _ _ (by omega) hs ⟨hv.1,hv.2.1,hv.2.2.1,by have:=hv.2.2.2;omega⟩ (by omega))
  exact bad _ (by simp at c4;omega)
 ·refine Tells.bind (vx2 (by omega) (by omega) (by omega) (by omega)) fun e he=>?_
  refine Tells.dec (fun _=>bad _ (by omega)) fun c4=>?_
  refine Tells.ok (x61 (by omega) (by omega) (by omega)) (Tells.bind (yt0 hN hl) fun v hv=>?_)
  have hs:=sl at_ e (by omega) (by omega) (by omega)
  refine Tells.ite (fun _=>bad _ (by omega)) fun _=>Tells.ok (inI (by omega) (by omega)) (Tells.ok (inI (by omega) (by omega)) (Tells.ok (x61 (by omega) (by omega) (by omega)) (good _ _ _ _ (by omega) (sl _ _ (by omega) (by omega) (by omega)) ⟨hv.1,hv.2.1,hv.2.2.1,by have:=hv.2.2.2;omega⟩ (by omega))))
 ·refine Tells.bind (vx7 (by omega) (by omega) (by omega) (by omega)) fun e he=>?_
  refine Tells.dec (fun _=>bad _ (by omega)) fun c4=>Tells.ok (x61 (by omega) (by omega) (by omega)) (good _ _ _ _ (by omega) (sl _ _ (by omega) (by omega) (by omega)) nov (by omega))
structure uq4 (n:Nat) (l:List q39):Prop where
 len:l.length≤n
 tok:∀ t∈l,kv6 n t∧0≤t.2.2.2.1.1∧t.2.2.2.1.1≤n+1∧0≤t.2.2.2.1.2.1∧t.2.2.2.1.2.1≤n+1
omit hm in
theorem kl0 :Tells (ja9 N s) fun r=>uq4 s.length r.1:=by
 unfold ja9 xf9
 have nil:uq4 s.length []:=⟨by simp,by simp⟩
 refine Tells.dec (fun _=>Tells.some nil) fun hm=>?_
 refine Tells.iter (fun (e:List q39×Int×Int×Int)=>0≤e.2.2.2∧e.2.2.2≤s.length∧1≤e.2.1∧e.2.1≤e.2.2.2+1∧0≤e.2.2.1∧e.2.2.1≤e.2.2.2∧(e.1.length:Int)≤e.2.2.2∧uq4 s.length e.1) (fun (e:List q39×Int×Int×Int)=>s.length-e.2.2.2.toNat) ?_ N _ ⟨by simp,by simp,by simp,by simp,by simp,by simp,by simp,nil⟩ (by dsimp only;omega)
 rintro K ⟨out,line,begin,at_⟩ ⟨k1,k2,k3,k4,k5,k6,k7,k8⟩ hK
 dsimp only at k1 k2 k3 k4 k5 k6 k7 k8 hK
 unfold zu8 yi9
 dsimp only
 refine Tells.dec (fun c=>?_) (fun _=>Tells.some k8)
 refine Tells.ok (qi0 (by omega) (by omega)) (Tells.ite (fun _=>?_) (fun _=>Tells.ite (fun _=>?_) (fun _=>Tells.ite (fun c3=>?_) (fun _=>?_))))
 ·exact Tells.ok (inI (by omega) (by omega)) (hK _ ⟨by dsimp only;omega,by dsimp only;omega,by dsimp only;omega,by dsimp only;omega,by dsimp only;omega,by dsimp only;omega,by dsimp only;omega,k8⟩ (by dsimp only;omega))
 ·exact Tells.ok (inI (by omega) (by omega)) (Tells.ok (inI (by omega) (by omega)) (hK _ ⟨by dsimp only;omega,by dsimp only;omega,by dsimp only;omega,by dsimp only;omega,by dsimp only;omega,by dsimp only;omega,by dsimp only;omega,k8⟩ (by dsimp only;omega)))
 ·have c3:q37 s at_=59:=by simpa using c3
  have next:∀ a:Int,at_<a→a≤s.length→Tells (K (out,line,begin,a)) fun r=>uq4 s.length r.1:=fun a g1 g2=>hK _ ⟨by dsimp only;omega,by dsimp only;omega,by dsimp only;omega,by dsimp only;omega,by dsimp only;omega,by dsimp only;omega,by dsimp only;omega,k8⟩ (by dsimp only;omega)
  refine Tells.iter (fun (e:Int)=>at_≤e∧e≤s.length) (fun (e:Int)=>s.length-e.toNat) ?_ N _ ⟨by omega,by omega⟩ (by omega)
  rintro K1 a ⟨g1,g2⟩ hK1
  unfold jb0
  dsimp only
  refine Tells.dec (fun c4=>?_) (fun c4=>next _ (by omega) (by omega))
  refine Tells.ok (qi0 (by omega) (by omega)) (Tells.ite (fun c5=>?_) (fun c5=>?_))
  ·exact Tells.ok (inI (by omega) (by omega)) (hK1 _ ⟨by omega,by omega⟩ (by omega))
  ·refine next _ ?_ (by omega)
   rcases Int.lt_or_le at_ a with h|h
   ·exact h
   ·have:a=at_:=by omega
    subst this
    simp at c5
    omega
 ·refine Tells.ok (inI (by omega) (by omega)) (Tells.ok (inI (by omega) (by omega)) (Tells.bind (k09 hN hl (by omega) (by omega) (by omega)) fun r hr=>?_))
  refine Tells.ite (fun _=>Tells.some nil) (fun c4=>?_)
  obtain⟨t1,t2,t3⟩:=hr (by simpa using c4)
  refine Tells.ok (jy4 (by simp only[List.length_append,List.length_cons,List.length_nil];omega)) (hK _ ⟨by dsimp only;omega,by dsimp only;omega,by dsimp only;omega,by dsimp only;omega,by dsimp only;omega,by dsimp only;omega,?_,?_,?_⟩ (by dsimp only;omega))
  ·simp only[List.length_append,List.length_cons,List.length_nil];omega
  ·simp only[List.length_append,List.length_cons,List.length_nil];omega
  ·intro t ht
   rcases List.mem_append.1 ht with h|h
   ·exact k8.tok t h
   ·simp only[List.mem_cons,List.not_mem_nil,or_false] at h
    subst h
    exact⟨⟨t1.kind,t1.text,t1.val⟩,by dsimp only;omega,by dsimp only;omega,by dsimp only;omega,by dsimp only;omega⟩
end
end Go.Proofs.YtgicljncknbgcaaGreat.Abs
