/- The document's parser of expressions: what a derivation is. -/
import Derived.Test.YtgicljncknbgcaaGreatR1
set_option linter.unusedVariables false
set_option linter.unusedSimpArgs false
set_option linter.unusedSectionVars false
namespace Go.Proofs.YtgicljncknbgcaaGreat.Abs
open Go
def nx (L:List q39)(a:Int):List UInt8 :=
 if a<L.length∧((q17 L a q33).1=1∨(q17 L a q33).1=7) then (q17 L a q33).2.1 else []
def ifx (l:Int)(s:List UInt8):Int :=
 if l=0 then (if s=[111,114] then 4 else 0)
 else if l=1 then (if s=[97,110,100] then 5 else 0)
 else if l=3 then (if s=[61] then 7 else if s=[60,62] then 8 else if s=[60] then 9 else if s=[60,61] then 10 else if s=[62] then 11 else if s=[62,61] then 12 else 0)
 else if l=4 then (if s=[43] then 13 else if s=[45] then 14 else 0)
 else if l=5 then (if s=[42] then 15 else if s=[47] then 16 else 0)
 else 0
def jt6 (s:List UInt8):Int×Int×Int×Unit:=(zv1 0 s).getD (0,0,0,())
def litF (s:List UInt8):Option q00 :=
 if s=[116,114,117,101] then some (4,1,[],()) else if s=[102,97,108,115,101] then some (4,0,[],()) else if s=[110,117,108,108] then some (0,0,[],()) else none
inductive Mode where
 |ex (l:Int)
 |tl (l a:Int)
 |at_
 |ar (least most:Int) (ks:List Int)
abbrev nd (op:Int)(v:q00)(name:List UInt8)(ks:List Int)(pl:qd5):q15:=(op,v,name,ks,pl,())
abbrev v0 :q00:=(0,0,[],())
inductive Run (L:List q39):Mode→Int→List q15→Int→List q15→List Int→Prop
 |atom {a T a' T' i}:Run L .at_ a T a' T' [i]→Run L (.ex 7) a T a' T' [i]
 |not {a T a' T' i pl}:nx L a=[110,111,116]→Run L (.ex 2) (a+1) T a' T' [i]→Run L (.ex 2) a T a' (T'++[nd 6 v0 [] [i] pl]) [(T'.length:Int)]
 |neg {a T a' T' i pl}:nx L a=[45]→Run L (.ex 6) (a+1) T a' T' [i]→Run L (.ex 6) a T a' (T'++[nd 17 v0 [] [i] pl]) [(T'.length:Int)]
 |inf {l a T a1 T1 i a' T' j}:0≤l→l<7→¬ (l=2∧nx L a=[110,111,116])→¬ (l=6∧nx L a=[45])→Run L (.ex (l+1)) a T a1 T1 [i]→Run L (.tl l i) a1 T1 a' T' [j]→Run L (.ex l) a T a' T' [j]
 |stop {l i a T}:ifx l (nx L a)=0→Run L (.tl l i) a T a T [i]
 |cmp {i a T a1 T1 j pl}:ifx 3 (nx L a)≠0→Run L (.ex 4) (a+1) T a1 T1 [j]→Run L (.tl 3 i) a T a1 (T1++[nd (ifx 3 (nx L a)) v0 [] [i,j] pl]) [(T1.length:Int)]
 |more {l i a T a1 T1 j a' T' k pl}:l≠3→ifx l (nx L a)≠0→Run L (.ex (l+1)) (a+1) T a1 T1 [j]→Run L (.tl l (T1.length:Int)) a1 (T1++[nd (ifx l (nx L a)) v0 [] [i,j] pl]) a' T' [k]→Run L (.tl l i) a T a' T' [k]
 |var {a:Int} {T pl}:a<L.length→(q17 L a q33).1=2→Run L .at_ a T (a+1) (T++[nd 2 v0 (q17 L a q33).2.1 [] pl]) [(T.length:Int)]
 |self {a:Int} {T pl}:a<L.length→(q17 L a q33).1=3→Run L .at_ a T (a+1) (T++[nd 3 v0 [] [] pl]) [(T.length:Int)]
 |lit {a:Int} {T pl}:a<L.length→4≤(q17 L a q33).1→(q17 L a q33).1≤6→Run L .at_ a T (a+1) (T++[nd 1 (q17 L a q33).2.2.1 [] [] pl]) [(T.length:Int)]
 |word {a:Int} {T pl v}:a<L.length→(q17 L a q33).1=1→(jt6 (q17 L a q33).2.1).1=0→litF (q17 L a q33).2.1=some v→Run L .at_ a T (a+1) (T++[nd 1 v [] [] pl]) [(T.length:Int)]
 |call {a:Int} {T} {a':Int} {T' ks pl}:a<L.length→(q17 L a q33).1=1→(jt6 (q17 L a q33).2.1).1≠0→nx L (a+1)=[40]→Run L (.ar (jt6 (q17 L a q33).2.1).2.1 (jt6 (q17 L a q33).2.1).2.2.1 []) (a+2) T a' T' ks→nx L a'=[41]→Run L .at_ a T (a'+1) (T'++[nd (jt6 (q17 L a q33).2.1).1 v0 [] ks pl]) [(T'.length:Int)]
 |paren {a T a' T' i}:nx L a=[40]→(q17 L a q33).1=7→Run L (.ex 0) (a+1) T a' T' [i]→nx L a'=[41]→Run L .at_ a T (a'+1) T' [i]
 |last {least most ks a T a' T' i}:Run L (.ex 0) a T a' T' [i]→¬ (nx L a'=[41]∧((ks++[i]).length:Int)<least)→nx L a'≠[44]→Run L (.ar least most ks) a T a' T' (ks++[i])
 |next {least most ks a T a1 T1 i a' T' ks'}:Run L (.ex 0) a T a1 T1 [i]→nx L a1=[44]→((ks++[i]).length:Int)≠most→Run L (.ar least most (ks++[i])) (a1+1) T1 a' T' ks'→Run L (.ar least most ks) a T a' T' ks'
section
variable {N:Nat}
theorem ya3 {L:List q39}{a:Int}(h:0≤a)(d:Int)(T:List q15)(E B:Int):qa0 N L a d T E B=some (nx L a):=by
 unfold qa0 nx
 by_cases c:a<L.length
 ·have:inR a L.length=true:=qi0 h c
  simp only[c,decide_true,this,cond_true,true_and]
  by_cases c1:(q17 L a q33).1=1
  ·simp[c1]
  ·have c1':((q17 L a q33).1==1)=false:=by simpa using c1
   by_cases c2:(q17 L a q33).1=7
   ·simp[c2]
   ·have c2':((q17 L a q33).1==7)=false:=by simpa using c2
    simp only[c1',c2',cond_false,c1,c2,or_self,if_false]
 ·simp[c]
theorem xp8 {L:List q39}{a:Int}(h:nx L a≠[]):a<L.length:=by
 unfold nx at h
 split at h
 ·rename_i h1;exact h1.1
 ·exact absurd rfl h
def yq5 (L:List q39)(a E B:Int)(s:List UInt8):Int×Int×Int :=
 if E=0 then if nx L a=s then (a+1,0,B) else (a,4,a) else (a,E,B)
theorem vp9 {L:List q39}{a:Int}(h:0≤a)(h2:a≤L.length)(h3:L.length≤1000000)(d:Int)(T:List q15)(E B:Int)(s:List UInt8):
  qk6 N L a d T E B s=some (((L,(yq5 L a E B s).1,d,T,(yq5 L a E B s).2.1,(yq5 L a E B s).2.2,()),()),()):=by
 unfold qk6 yq5
 have h1:q24 (a+1)=true:=inI (by omega) (by omega)
 simp only[ya3 h,Option.bind_some,h1,cond_true]
 by_cases c:E=0
 ·subst c
  by_cases c2:nx L a=s
  ·simp[c2]
  ·have c2':(nx L a==s)=false:=by simpa using c2
   simp[c2,c2']
 ·have c':(E==0)=false:=by simpa using c
  simp only[c',cond_false,c,if_false]
theorem call_is (s:List UInt8):zv1 N s=some (jt6 s):=by
 have e:zv1 N s=zv1 0 s:=rfl
 rw[e]
 unfold jt6
 have:∃ x,zv1 0 s=some x:=by
  unfold zv1
  repeat' first|exact⟨_,rfl⟩|(refine(fun {g:Bool} {x y:Option (Int×Int×Int×Unit)} (h1:∃ z,x=some z) (h2:∃ z,y=some z)=>show ∃ z,(bif g then x else y)=some z by cases g<;>assumption) ?_ ?_)
 obtain⟨x,hx⟩:=this
 rw[hx];rfl
theorem q5v {T:List q15}(hT:T.length≤1000000)(L:List q39)(a d E B:Int)(n:q15):qq0 N L a d T E B n=some (((L,a,d,T++[n],E,B,()),()),((T.length:Int),())):=by
 unfold qq0
 have h1:qr1 (T.length+([n]:List q15).length) 1466015503701=true:=jy4 (by simp;omega)
 have h3:((T++[n]).length:Int)-1=T.length:=by simp
 have h2:q24 (((T++[n]).length:Int)-1)=true:=by rw[h3];exact inI (by omega) (by omega)
 rw[h1,cond_true,h2,cond_true,h3]
theorem kd7 (hN:20≤N){l:Int}(h1:0≤l)(h2:l≤6)(s:List UInt8):jn7 N l s=some (ifx l s):=by
 obtain⟨M,rfl⟩:∃ M,N=M+20:=⟨N-20,by omega⟩
 have hl:l=0∨l=1∨l=2∨l=3∨l=4∨l=5∨l=6:=by omega
 have bq:∀ a b:List UInt8,(a==b)=decide (b=a):=fun a b=>by
  by_cases h:a=b
  ·subst h;simp
  ·have h':¬ b=a:=fun e=>h e.symm
   simp[h,h']
 unfold jn7 xu0 ifx
 rcases hl with rfl|rfl|rfl|rfl|rfl|rfl|rfl
 case inr.inr.inl=>rfl
 case inr.inr.inr.inr.inr.inr=>rfl
 all_goals
  simp only[q80,x20,q17,inR,bq,Bool.cond_decide]
  simp (decide:=true)
  repeat' split
 all_goals first|rfl|simp_all
end
abbrev RS :=(((List q39)×Int×Int×(List q15)×Int×Int×Unit)×Unit)×(Int×Unit)
structure wd5 (L:List q39) (a:Int) (T:List q15) (d mu:Int) (m:Mode) (r:RS):Prop where
 eqL:r.1.1.1=L
 at1:a≤r.1.1.2.1
 at2:r.1.1.2.1≤L.length
 len:(r.1.1.2.2.2.1.length:Int)≤T.length+(r.1.1.2.1-a)
 bad:0≤r.1.1.2.2.2.2.2.1
 err:r.1.1.2.2.2.2.1≠0→d-mu≤r.1.1.2.2.1∧r.1.1.2.2.1≤d+mu
 ok:r.1.1.2.2.2.2.1=0→r.1.1.2.2.1=d∧Run L m a T r.1.1.2.1 r.1.1.2.2.2.1 [r.2.1]
theorem Gr0_n (n d:Nat):(v13 n d).n=n:=by cases d<;>rfl
def muE (d l:Int):Int:=(13-d)*12+(8-l)+3
def muA (d:Int):Int:=(13-d)*12+2
def muC (d:Int):Int:=(13-d)*12+1
structure GrOK (G:Gr0) (c:Nat):Prop where
 err:∀ (L:List q39) (a D:Int) (T:List q15) (E B l:Int),E≠0→0<c→G.r7_Reader_expr L a D T E B l=some (((L,a,D,T,E,B,()),()),(-1,()))
 ex:∀ (L:List q39) (a D:Int) (T:List q15) (B l:Int),L.length≤65536→0≤a→a≤L.length→(T.length:Int)≤a→0≤B→0≤l→l≤7→0≤D→D≤12→muE D l<c→Tells (G.r7_Reader_expr L a D T 0 B l) (wd5 L a T D (muE D l) (.ex l))
 at_:∀ (L:List q39) (a D:Int) (T:List q15) (B:Int),L.length≤65536→0≤a→a≤L.length→(T.length:Int)≤a→0≤B→0≤D→D≤12→muA D<c→Tells (G.r7_Reader_atom L a D T 0 B) (wd5 L a T D (muA D) .at_)
 call:∀ (L:List q39) (a D:Int) (T:List q15) (B:Int),L.length≤65536→0≤a→a<L.length→(T.length:Int)≤a→0≤B→0≤D→D≤12→muC D<c→(q17 L a q33).1=1→(jt6 (q17 L a q33).2.1).1≠0 →
  Tells (G.r7_Reader_call L a D T 0 B (jt6 (q17 L a q33).2.1).1 (jt6 (q17 L a q33).2.1).2.1 (jt6 (q17 L a q33).2.1).2.2.1) (wd5 L a T D (muC D) .at_)
section
variable {G:Gr0} {c:Nat} (hn:100000≤G.n) (hG:GrOK G c)
include hn hG
omit hn hG in
theorem expr_err {L a D T E B l}(h:E≠0):qf3 G L a D T E B l=some (((L,a,D,T,E,B,()),()),(-1,())):=by
 unfold qf3 wf7
 have:(E != 0)=true:=by simpa using h
 rw[this];rfl
theorem expr_ok {L : List q39} {a D : Int} {T : List q15} {B l : Int} (hL : L.length ≤ 65536) (h1 : 0 ≤ a) (h2 : a ≤ L.length) (h3 : (T.length : Int) ≤ a) (h4 : 0 ≤ B) (h5 : 0 ≤ l) (h6 : l ≤ 7) (h7 : 0 ≤ D) (h8 : D ≤ 12) (hmu : muE D l < c + 1) :
    Tells (qf3 G L a D T 0 B l) (wd5 L a T D (muE D l) (.ex l)) := by
  have hat : 0 < G.n := by omega
  unfold muE at hmu
  unfold qf3 wf7
  refine Tells.no rfl (Tells.ite (fun c7 => ?_) (fun c7 => ?_))
  · have : l = 7 := by simpa using c7
    subst this
    refine Tells.bind (hG.at_ L a D T B hL h1 h2 h3 h4 h7 h8 (by unfold muA; omega)) fun r hr => Tells.some ?_
    exact ⟨hr.eqL, hr.at1, hr.at2, hr.len, hr.bad, fun e => by have := hr.err e; unfold muA at this; unfold muE; dsimp only; omega, fun e => ⟨(hr.ok e).1, .atom (hr.ok e).2⟩⟩
  have l7 : l < 7 := by have : l ≠ 7 := by simpa using c7
                        omega
  have main : ∀ x y : Int, Tells (at1 G.n (qv4 G l L a D T 0 B (x, y))) (wd5 L a T D (muE D l) (.ex l)) := fun x y => by
    rw [q95 hat]
    unfold qv4 wp6
    dsimp only
    have hB2 : (l = 2 ∧ nx L a = [110, 111, 116] ∨ l = 6 ∧ nx L a = [45]) → Tells (at1 G.n (ql1 G l L a D T 0 B x y ())) (wd5 L a T D (muE D l) (.ex l)) := fun hp => by
      rw [q95 hat]
      unfold ql1 wp7
      have ha : a < L.length := by rcases hp with ⟨_, h⟩ | ⟨_, h⟩ <;> exact xp8 (by rw [h]; simp)
      have hB4 : ∀ op, (op = if l = 6 then 17 else 6) → Tells (at1 G.n (qv5 G l L a D T 0 B x y op)) (wd5 L a T D (muE D l) (.ex l)) := fun op hop => by
        rw [q95 hat]
        unfold qv5 wp9
        dsimp only
        refine Tells.dec (fun cd => ?_) (fun cd => ?_)
        · refine Tells.ok rfl (Tells.ok (inI (by omega) (by omega)) ?_)
          rw [q95 hat]
          unfold w83
          refine Tells.ok rfl (Tells.some ⟨rfl, by simp, h2, by simp, h1, fun _ => by unfold muE; dsimp only; omega, fun e => by simp at e⟩)
        · refine Tells.ok (inI (by omega) (by omega)) ?_
          rw [q95 hat]
          unfold w83
          refine Tells.no rfl (Tells.ok (inI (by omega) (by omega)) (Tells.bind (hG.ex L (a + 1) (D + 1) T B l hL (by omega) (by omega) (by omega) h4 h5 h6 (by omega) (by omega) (by unfold muE; omega)) fun r hr => ?_))
          obtain ⟨⟨⟨L1, a1, D1, T1, E1, B1, _⟩, _⟩, ⟨i1, _⟩⟩ := r
          obtain ⟨g1, g2, g3, g4, g5, g6, g7⟩ := hr
          dsimp only at g1 g2 g3 g4 g5 g6 g7 ⊢
          subst g1
          unfold muE at g6
          have gD : -1000 ≤ D1 ∧ D1 ≤ 1000 := by
            by_cases e : E1 = 0
            · have := (g7 e).1; omega
            · have := g6 e; omega
          refine Tells.ok (inI (by omega) (by omega)) ?_
          rw [q5v (by omega), Option.bind_some]
          refine Tells.some ⟨rfl, by dsimp only; omega, g3, by dsimp only; simp only [List.length_append, List.length_cons, List.length_nil]; omega, g5, fun e => by have := g6 e; unfold muE; dsimp only; omega, fun e => ⟨by have := (g7 e).1; dsimp only; omega, ?_⟩⟩
          have hr := (g7 e).2
          rcases hp with ⟨rfl, h⟩ | ⟨rfl, h⟩
          · rw [if_neg (by omega)] at hop
            subst hop
            exact .not h hr
          · rw [if_pos rfl] at hop
            subst hop
            exact .neg h hr
      refine Tells.ite (fun c6 => hB4 _ ?_) (fun c6 => hB4 _ ?_)
      · have : l = 6 := by simpa using c6
        rw [if_pos this]
      · have : l ≠ 6 := by simpa using c6
        rw [if_neg this]
    have hB3 : ¬ (l = 2 ∧ nx L a = [110, 111, 116]) → ¬ (l = 6 ∧ nx L a = [45]) → Tells (at1 G.n (qg9 G l L a D T 0 B x y ())) (wd5 L a T D (muE D l) (.ex l)) := fun n1 n2 => by
      rw [q95 hat]
      unfold qg9 wp8
      refine Tells.ok (inI (by omega) (by omega)) (Tells.bind (hG.ex L a D T B (l + 1) hL h1 h2 h3 h4 (by omega) (by omega) h7 h8 (by unfold muE; omega)) fun r hr => ?_)
      obtain ⟨⟨⟨L1, a1, D1, T1, E1, B1, _⟩, _⟩, ⟨i1, _⟩⟩ := r
      obtain ⟨g1, g2, g3, g4, g5, g6, g7⟩ := hr
      dsimp only at g1 g2 g3 g4 g5 g6 g7 ⊢
      subst g1
      refine Tells.iter (fun (e : Int × List q39 × Int × Int × List q15 × Int × Int) => e.2.1 = L1 ∧ a ≤ e.2.2.1 ∧ e.2.2.1 ≤ L1.length ∧ (e.2.2.2.2.1.length : Int) ≤ T.length + (e.2.2.1 - a) ∧ 0 ≤ e.2.2.2.2.2.2 ∧
        (e.2.2.2.2.2.1 ≠ 0 → D - muE D l ≤ e.2.2.2.1 ∧ e.2.2.2.1 ≤ D + muE D l) ∧ (e.2.2.2.2.2.1 = 0 → e.2.2.2.1 = D ∧ ∀ a' T' j, Run L1 (.tl l e.1) e.2.2.1 e.2.2.2.2.1 a' T' [j] → Run L1 (.ex l) a T a' T' [j]))
        (fun (e : Int × List q39 × Int × Int × List q15 × Int × Int) => L1.length - e.2.2.1.toNat) ?_ G.n _ ⟨rfl, g2, g3, g4, g5, fun e => by have := g6 e; unfold muE at this ⊢; dsimp only; omega, fun e => ⟨(g7 e).1, fun a' T' j h => .inf h5 l7 n1 n2 (g7 e).2 h⟩⟩ (by dsimp only; omega)
      rintro K ⟨i, L2, a2, D2, T2, E2, B2⟩ ⟨k1, k2, k3, k4, k5, k6, k7⟩ hK
      dsimp only at k1 k2 k3 k4 k5 k6 k7 hK
      subst k1
      unfold w84 wq0
      dsimp only
      refine Tells.ite (fun e0 => ?_) (fun e0 => Tells.some ⟨rfl, k2, k3, k4, k5, fun e => k6 e, fun e => absurd e (by simpa using e0)⟩)
      have e0 : E2 = 0 := by simpa using e0
      subst e0
      obtain ⟨q1, q2⟩ := k7 rfl
      rw [ya3 (by omega), Option.bind_some, kd7 (by omega) h5 (by omega), Option.bind_some]
      refine Tells.ite (fun ci => ?_) (fun ci => Tells.some ⟨rfl, k2, k3, k4, k5, fun e => absurd rfl e, fun _ => ⟨q1, q2 _ _ _ (.stop (by simpa using ci))⟩⟩)
      have ci : ifx l (nx L2 a2) ≠ 0 := by simpa using ci
      rw [Option.bind_some, kd7 (by omega) h5 (by omega), Option.bind_some]
      have ha : a2 < L2.length := by
        refine xp8 fun e => ci ?_
        rw [e]
        unfold ifx
        simp
      have hB7 : ∀ u v : Int, Tells (at1 G.n (w85 G l i L2 a2 D2 T2 0 B2 x y (ifx l (nx L2 a2)) K (u, v))) (wd5 L2 a T D (muE D l) (.ex l)) := fun u v => by
        rw [q95 hat]
        unfold w85
        subst q1
        refine Tells.ok (inI (by omega) (by omega)) (Tells.ok (inI (by omega) (by omega)) (Tells.bind (hG.ex L2 (a2 + 1) D2 T2 B2 (l + 1) hL (by omega) (by omega) (by omega) k5 (by omega) (by omega) h7 h8 (by unfold muE; omega)) fun r hr => ?_))
        obtain ⟨⟨⟨L1, a1, D1, T1, E1, B1, _⟩, _⟩, ⟨i1, _⟩⟩ := r
        obtain ⟨g1, g2, g3, g4, g5, g6, g7⟩ := hr
        dsimp only at g1 g2 g3 g4 g5 g6 g7 ⊢
        subst g1
        rw [q5v (by omega), Option.bind_some]
        have w6 : E1 ≠ 0 → D2 - muE D2 l ≤ D1 ∧ D1 ≤ D2 + muE D2 l := fun e => by have := g6 e; unfold muE at this ⊢; omega
        have wl : ((T1 ++ [nd (ifx l (nx L1 a2)) v0 [] [i, i1] (u, v, ())]).length : Int) ≤ T.length + (a1 - a) := by
          simp only [List.length_append, List.length_cons, List.length_nil]; omega
        refine Tells.ite (fun c3 => ?_) (fun c3 => ?_)
        · have c3 : l = 3 := by simpa using c3
          subst c3
          exact Tells.some ⟨rfl, by dsimp only; omega, g3, wl, g5, fun e => w6 e, fun e => ⟨(g7 e).1, q2 _ _ _ (.cmp ci (g7 e).2)⟩⟩
        · have c3 : l ≠ 3 := by simpa using c3
          exact hK _ ⟨rfl, by dsimp only; omega, g3, wl, g5, fun e => w6 e, fun e => ⟨(g7 e).1, fun a' T' j h => q2 _ _ _ (.more c3 ci (g7 e).2 h)⟩⟩ (by dsimp only; omega)
      exact Tells.dec (fun _ => Tells.ok (qi0 (by omega) (by omega)) (hB7 _ _)) (fun h => absurd ha h)
    have hB6 : Tells (bif (l == 6) then
        (qa0 G.n L a D T 0 B).bind fun (r3 : List UInt8) =>
        bif (r3 == ([45] : List UInt8)) then at1 G.n (ql1 G l L a D T 0 B x y ()) else at1 G.n (qg9 G l L a D T 0 B x y ())
      else at1 G.n (qg9 G l L a D T 0 B x y ())) (wd5 L a T D (muE D l) (.ex l)) ∨ nx L a = [110, 111, 116] ∧ l = 2 := by
      by_cases hh : nx L a = [110, 111, 116] ∧ l = 2
      · exact .inr hh
      · refine .inl (Tells.ite (fun c6 => ?_) (fun c6 => hB3 (fun h => hh ⟨h.2, h.1⟩) (fun h => by simp [h.1] at c6)))
        rw [ya3 h1, Option.bind_some]
        exact Tells.ite (fun c => hB2 (.inr ⟨by simpa using c6, by simpa using c⟩)) (fun c => hB3 (fun h => hh ⟨h.2, h.1⟩) (fun h => by simp [h.2] at c))
    refine Tells.ite (fun c2 => ?_) (fun c2 => ?_)
    · rw [ya3 h1, Option.bind_some]
      refine Tells.ite (fun c => hB2 (.inl ⟨by simpa using c2, by simpa using c⟩)) (fun c => ?_)
      rcases hB6 with h | ⟨h, _⟩
      · rw [ya3 h1, Option.bind_some] at h; exact h
      · simp [h] at c
    · rcases hB6 with h | ⟨_, h⟩
      · exact h
      · simp [h] at c2
  exact Tells.dec (fun _ => Tells.ok (qi0 (by omega) (by omega)) (main _ _)) (fun _ => main _ _)
end
theorem nx_kind {L:List q39}{a:Int}(h:nx L a≠[]):(q17 L a q33).1=1∨(q17 L a q33).1=7:=by
 unfold nx at h
 split at h
 ·rename_i h1;exact h1.2
 ·exact absurd rfl h
section
variable {G:Gr0} {c:Nat} (hn:100000≤G.n) (hG:GrOK G c)
include hn hG
theorem atom_ok {L:List q39}{a D:Int}{T:List q15}{B:Int}(hL:L.length≤65536)(h1:0≤a)(h2:a≤L.length)(h3:(T.length:Int)≤a)(h4:0≤B)(h7:0≤D)(h8:D≤12)(hmu:muA D<c+1):
  Tells (qn8 G L a D T 0 B) (wd5 L a T D (muA D) .at_):=by
 have hat:0<G.n:=by omega
 unfold muA at hmu
 unfold qn8 zb3
 have bad:Tells (some (((L,a,D,T,4,a,()),()),((-1),())):Option RS) (wd5 L a T D (muA D) .at_):=Tells.some ⟨rfl,by simp,h2,by simp,h1,fun _=>by unfold muA;dsimp only;omega,fun e=>by simp at e⟩
 refine Tells.dec (fun _=>Tells.ok rfl bad) (fun hlt=>Tells.ok (qi0 (by omega) (by omega)) ?_)
 have hB1:∀ (k1:Int) (k2:List UInt8) (k3 k4:Int) (k5:List UInt8) (k6 k7 x y op vk vn:Int) (vs nm:List UInt8),(Run L .at_ a T (a+1) (T++[nd op (vk,vn,vs,()) nm [] (x,y,())]) [(T.length:Int)]) →
   Tells (at1 G.n (w76 G L a D T 0 B k1 k2 k3 k4 k5 k6 k7 x y (op,vk,vn,vs,nm))) (wd5 L a T D (muA D) .at_):=fun k1 k2 k3 k4 k5 k6 k7 x y op vk vn vs nm hr=>by
  rw[q95 hat]
  unfold w76
  refine Tells.ok (inI (by omega) (by omega)) ?_
  rw[q5v (by omega),Option.bind_some]
  exact Tells.some ⟨rfl,by dsimp only;omega,by dsimp only;omega,by dsimp only;simp only[List.length_append,List.length_cons,List.length_nil];omega,h4,fun e=>absurd rfl e,fun _=>⟨rfl,hr⟩⟩
 have hlt':a<L.length:=by omega
 refine Tells.ite (fun c2=>hB1 _ _ _ _ _ _ _ _ _ _ _ _ _ _ (.var (a:=a) hlt' (by simpa using c2))) fun _=>?_
 refine Tells.ite (fun c2=>hB1 _ _ _ _ _ _ _ _ _ _ _ _ _ _ (.self (a:=a) hlt' (by simpa using c2))) fun _=>?_
 have lit:∀ k:Int,((q17 L a q33).1==k)=true→4≤k→k≤6→Run L .at_ a T (a+1) (T++[nd 1 (((q17 L a q33).2.2.1).1,((q17 L a q33).2.2.1).2.1,((q17 L a q33).2.2.1).2.2.1,()) [] [] (((q17 L a q33).2.2.2.1).1,((q17 L a q33).2.2.2.1).2.1,())]) [(T.length:Int)]:=fun k hk g1 g2=>by
  have e:(q17 L a q33).1=k:=by simpa using hk
  exact .lit hlt' (by omega) (by omega)
 refine Tells.ite (fun c2=>hB1 _ _ _ _ _ _ _ _ _ _ _ _ _ _ (lit 4 c2 (by omega) (by omega))) fun _=>?_
 refine Tells.ite (fun c2=>hB1 _ _ _ _ _ _ _ _ _ _ _ _ _ _ (lit 5 c2 (by omega) (by omega))) fun _=>?_
 refine Tells.ite (fun c2=>hB1 _ _ _ _ _ _ _ _ _ _ _ _ _ _ (lit 6 c2 (by omega) (by omega))) fun _=>?_
 refine Tells.ite (fun c1=>?_) (fun c1=>?_)
 ·have c1:(q17 L a q33).1=1:=by simpa using c1
  rw[call_is,Option.bind_some]
  refine Tells.ite (fun cc=>?_) (fun cc=>?_)
  ·refine Tells.bind (hG.call L a D T B hL h1 hlt' h3 h4 h7 h8 (by unfold muC;omega) c1 (by simpa using cc)) fun r hr=>Tells.some ?_
   exact⟨hr.eqL,hr.at1,hr.at2,hr.len,hr.bad,fun e=>by have:=hr.err e;unfold muC at this;unfold muA;dsimp only;omega,fun e=>hr.ok e⟩
  ·have cc:(jt6 (q17 L a q33).2.1).1=0:=by simpa using cc
   refine Tells.ite (fun c2=>hB1 _ _ _ _ _ _ _ _ _ _ _ _ _ _ (.word (a:=a) hlt' c1 cc (by have e:(q17 L a q33).2.1=_:=eq_of_beq c2;rw[e];rfl))) fun _=>?_
   refine Tells.ite (fun c2=>hB1 _ _ _ _ _ _ _ _ _ _ _ _ _ _ (.word (a:=a) hlt' c1 cc (by have e:(q17 L a q33).2.1=_:=eq_of_beq c2;rw[e];rfl))) fun _=>?_
   refine Tells.ite (fun c2=>hB1 _ _ _ _ _ _ _ _ _ _ _ _ _ _ (.word (a:=a) hlt' c1 cc (by have e:(q17 L a q33).2.1=_:=eq_of_beq c2;rw[e];rfl))) fun _=>?_
   exact Tells.ok rfl bad
 ·rw[ya3 h1,Option.bind_some]
  have c1:(q17 L a q33).1≠1:=by simpa using c1
  have hB2:∀ (k1:Int) (k2:List UInt8) (k3 k4:Int) (k5:List UInt8) (k6 k7 k8 k9:Int) (k10:List UInt8) (x y D1 E1 B1:Int),0≤B1→(E1≠0→D≤D1∧D1≤D+1)→(E1=0→nx L a=[40]→D1=D+1∧D<12)→(nx L a≠[40]→D1=D) →
    Tells (at1 G.n (w77 G L a T k1 k2 k3 k4 k5 k6 k7 k8 k9 k10 x y (D1,E1,B1))) (wd5 L a T D (muA D) .at_):=fun k1 k2 k3 k4 k5 k6 k7 k8 k9 k10 x y D1 E1 B1 hb he ho hne=>by
   rw[q95 hat]
   unfold w77
   dsimp only
   rw[vp9 h1 h2 (by omega),Option.bind_some]
   dsimp only
   have gD:D≤D1∧D1≤D+1:=by
    by_cases e:E1=0
    ·by_cases e2:nx L a=[40]
     ·have:=ho e e2;omega
     ·have:=hne e2;omega
    ·exact he e
   by_cases e0:E1=0∧nx L a=[40]
   ·obtain⟨e1,e2⟩:=e0
    subst e1
    obtain⟨rfl,hd⟩:=ho rfl e2
    have em:yq5 L a 0 B1 [40]=(a+1,0,B1):=by unfold yq5;rw[if_pos rfl,if_pos e2]
    rw[em]
    dsimp only
    refine Tells.bind (hG.ex L (a+1) (D+1) T B1 0 hL (by omega) (by omega) (by omega) hb (by omega) (by omega) (by omega) (by omega) (by unfold muE;omega)) fun r hr=>?_
    obtain⟨⟨⟨L1,a1,D1,T1,E1,B1,_⟩,_⟩,⟨i1,_⟩⟩:=r
    obtain⟨g1,g2,g3,g4,g5,g6,g7⟩:=hr
    dsimp only at g1 g2 g3 g4 g5 g6 g7 ⊢
    subst g1
    unfold muE at g6
    rw[vp9 (by omega) g3 (by omega),Option.bind_some]
    dsimp only
    have gD:-1000≤D1∧D1≤1000:=by
     by_cases e:E1=0
     ·have:=(g7 e).1;omega
     ·have:=g6 e;omega
    refine Tells.ok (inI (by omega) (by omega)) (Tells.some ?_)
    unfold yq5
    by_cases e3:E1=0
    ·subst e3
     have hD:=(g7 rfl).1
     by_cases e4:nx L1 a1=[41]
     ·have:=xp8 (show nx L1 a1≠[] by rw[e4];simp)
      rw[if_pos rfl,if_pos e4]
      have hk:=nx_kind (show nx L1 a≠[] by rw[e2];simp)
      exact⟨rfl,by dsimp only;omega,by dsimp only;omega,by dsimp only;omega,g5,fun e=>absurd rfl e,fun _=>⟨by dsimp only;omega,.paren e2 (by omega) (g7 rfl).2 e4⟩⟩
     ·rw[if_pos rfl,if_neg e4]
      exact⟨rfl,by dsimp only;omega,by dsimp only;omega,by dsimp only;omega,by dsimp only;omega,fun e=>by unfold muA;dsimp only;omega,fun e=>by simp at e⟩
    ·rw[if_neg e3]
     exact⟨rfl,by dsimp only;omega,by dsimp only;omega,by dsimp only;omega,g5,fun e=>by have:=g6 e;unfold muA;dsimp only;omega,fun e=>absurd e e3⟩
   ·have em:(yq5 L a E1 B1 [40]).1=a∧(yq5 L a E1 B1 [40]).2.1≠0∧0≤(yq5 L a E1 B1 [40]).2.2:=by
     unfold yq5
     by_cases e1:E1=0
     ·rw[if_pos e1,if_neg (fun e2=>e0 ⟨e1,e2⟩)];exact⟨rfl,by simp,h1⟩
     ·rw[if_neg e1];exact⟨rfl,e1,hb⟩
    generalize yq5 L a E1 B1 [40]=m at em ⊢
    obtain⟨m1,m2,m3⟩:=m
    dsimp only at em ⊢
    obtain⟨rfl,em2,em3⟩:=em
    by_cases hc:0<c
    ·rw[hG.err _ _ _ _ _ _ _ em2 hc,Option.bind_some]
     dsimp only
     rw[vp9 (by omega) (by omega) (by omega),Option.bind_some]
     dsimp only
     have:yq5 L m1 m2 m3 [41]=(m1,m2,m3):=by unfold yq5;rw[if_neg em2]
     rw[this]
     exact Tells.ok (inI (by omega) (by omega)) (Tells.some ⟨rfl,by simp,h2,by simp,em3,fun _=>by unfold muA;dsimp only;omega,fun e=>absurd e em2⟩)
    ·exfalso;omega
  refine Tells.ite (fun c2=>?_) (fun c2=>?_)
  ·have c2:nx L a=[40]:=by simpa using c2
   refine Tells.dec (fun c3=>Tells.ok rfl (Tells.ok (inI (by omega) (by omega)) (hB2 _ _ _ _ _ _ _ _ _ _ _ _ _ _ _ h1 (fun _=>by omega) (fun e=>by simp at e) (fun e=>absurd c2 e)))) (fun c3=>?_)
   exact Tells.ok (inI (by omega) (by omega)) (hB2 _ _ _ _ _ _ _ _ _ _ _ _ _ _ _ h4 (fun e=>absurd rfl e) (fun _ _=>by omega) (fun e=>absurd c2 e))
  ·have c2:nx L a≠[40]:=by simpa using c2
   exact hB2 _ _ _ _ _ _ _ _ _ _ _ _ _ _ _ h4 (fun e=>absurd rfl e) (fun _ e=>absurd e c2) (fun _=>rfl)
end
section
variable {G:Gr0} {c:Nat} (hn:100000≤G.n) (hG:GrOK G c)
include hn hG
theorem call_ok {L : List q39} {a D : Int} {T : List q15} {B : Int} (hL : L.length ≤ 65536) (h1 : 0 ≤ a) (h2 : a < L.length) (h3 : (T.length : Int) ≤ a) (h4 : 0 ≤ B) (h7 : 0 ≤ D) (h8 : D ≤ 12) (hmu : muC D < c + 1)
    (hk : (q17 L a q33).1 = 1) (hc : (jt6 (q17 L a q33).2.1).1 ≠ 0) :
    Tells (qn9 G L a D T 0 B (jt6 (q17 L a q33).2.1).1 (jt6 (q17 L a q33).2.1).2.1 (jt6 (q17 L a q33).2.1).2.2.1) (wd5 L a T D (muC D) .at_) := by
  have hat : 0 < G.n := by omega
  unfold muC at hmu
  have hrun := fun a' T' ks pl => Run.call (a := a) (T := T) (a' := a') (T' := T') (ks := ks) (pl := pl) h2 hk hc
  generalize jt6 (q17 L a q33).2.1 = f at hrun hc
  obtain ⟨op, least, most, _⟩ := f
  dsimp only at hrun hc ⊢
  unfold qn9 zb5
  have main : ∀ x y : Int, Tells (at1 G.n (qu9 G least most L a D T 0 B op (x, y))) (wd5 L a T D (muC D) .at_) := fun x y => by
    rw [q95 hat]
    unfold qu9 wp1
    refine Tells.ok (inI (by omega) (by omega)) ?_
    rw [ya3 (by omega), Option.bind_some]
    -- what comes last
    have hB6 : ∀ (a1 D1 : Int) (T1 : List q15) (E1 B1 : Int) (ks : List Int), a + 1 ≤ a1 → a1 ≤ L.length → (T1.length : Int) ≤ T.length + (a1 - (a + 1)) → 0 ≤ B1 → (E1 ≠ 0 → D - muC D + 1 ≤ D1 ∧ D1 ≤ D + muC D) →
        (E1 = 0 → D1 = D + 1 ∧ nx L (a + 1) = [40] ∧ Run L (.ar least most []) (a + 2) T a1 T1 ks) →
        Tells (at1 G.n (qv2 G op 0 0 [] [] x y (L, a1, D1, T1, E1, B1, ks))) (wd5 L a T D (muC D) .at_) := fun a1 D1 T1 E1 B1 ks g1 g2 g3 g4 g5 g6 => by
      rw [q95 hat]
      unfold qv2
      dsimp only
      rw [vp9 (by omega) g2 (by omega), Option.bind_some]
      dsimp only
      have gD : -1000 ≤ D1 ∧ D1 ≤ 1000 := by
        by_cases e : E1 = 0
        · have := (g6 e).1; omega
        · have := g5 e; unfold muC at this; omega
      refine Tells.ok (inI (by omega) (by omega)) ?_
      rw [q5v (by omega), Option.bind_some]
      dsimp only
      refine Tells.some ?_
      have wl : ∀ n : q15, ((T1 ++ [n]).length : Int) = T1.length + 1 := fun n => by simp
      unfold yq5
      by_cases e3 : E1 = 0
      · subst e3
        obtain ⟨q1, q2, q3⟩ := g6 rfl
        by_cases e4 : nx L a1 = [41]
        · have := xp8 (show nx L a1 ≠ [] by rw [e4]; simp)
          rw [if_pos rfl, if_pos e4]
          exact ⟨rfl, by dsimp only; omega, by dsimp only; omega, by dsimp only; rw [wl]; omega, g4, fun e => absurd rfl e, fun _ => ⟨by dsimp only; omega, hrun _ _ _ _ q2 q3 e4⟩⟩
        · rw [if_pos rfl, if_neg e4]
          exact ⟨rfl, by dsimp only; omega, by dsimp only; omega, by dsimp only; rw [wl]; omega, by dsimp only; omega, fun e => by unfold muC; dsimp only; omega, fun e => by simp at e⟩
      · rw [if_neg e3]
        exact ⟨rfl, by dsimp only; omega, by dsimp only; omega, by dsimp only; rw [wl]; omega, g4, fun e => by have := g5 e; dsimp only; omega, fun e => absurd e e3⟩
    have hB2 : ∀ D1 E1 B1 : Int, 0 ≤ B1 → (E1 ≠ 0 → D ≤ D1 ∧ D1 ≤ D + 1) → (E1 = 0 → nx L (a + 1) = [40] → D1 = D + 1 ∧ D < 12) → (nx L (a + 1) ≠ [40] → D1 = D) →
        Tells (at1 G.n (qv0 G least most L (a + 1) T op x y (D1, E1, B1))) (wd5 L a T D (muC D) .at_) := fun D1 E1 B1 hb he ho hne => by
      rw [q95 hat]
      unfold qv0 wp2
      dsimp only
      rw [vp9 (by omega) (by omega) (by omega), Option.bind_some]
      dsimp only
      have gD : D ≤ D1 ∧ D1 ≤ D + 1 := by
        by_cases e : E1 = 0
        · by_cases e2 : nx L (a + 1) = [40]
          · have := ho e e2; omega
          · have := hne e2; omega
        · exact he e
      refine Tells.iter (fun (e : List q39 × Int × Int × List q15 × Int × Int × List Int) => e.1 = L ∧ a + 1 ≤ e.2.1 ∧ e.2.1 ≤ L.length ∧ (e.2.2.2.1.length : Int) ≤ T.length + (e.2.1 - (a + 1)) ∧ 0 ≤ e.2.2.2.2.2.1 ∧ (e.2.2.2.2.2.2.length : Int) ≤ e.2.1 ∧
        (e.2.2.2.2.1 ≠ 0 → D - muC D + 1 ≤ e.2.2.1 ∧ e.2.2.1 ≤ D + muC D) ∧
        (e.2.2.2.2.1 = 0 → e.2.2.1 = D + 1 ∧ D < 12 ∧ nx L (a + 1) = [40] ∧ ∀ a' T' ks', Run L (.ar least most e.2.2.2.2.2.2) e.2.1 e.2.2.2.1 a' T' ks' → Run L (.ar least most []) (a + 2) T a' T' ks'))
        (fun (e : List q39 × Int × Int × List q15 × Int × Int × List Int) => L.length - e.2.1.toNat) ?_ G.n _ ?_ (by dsimp only; omega)
      · rintro K ⟨L2, a2, D2, T2, E2, B2, ks⟩ ⟨k1, k2, k3, k4, k5, kk, k6, k7⟩ hK
        dsimp only at k1 k2 k3 k4 k5 kk k6 k7 hK
        subst k1
        unfold w78 wp3
        dsimp only
        refine Tells.ite (fun e0 => ?_) (fun e0 => ?_)
        · have e0 : E2 = 0 := by simpa using e0
          subst e0
          obtain ⟨q1, q2, q3, q4⟩ := k7 rfl
          subst q1
          refine Tells.bind (hG.ex L2 a2 (D + 1) T2 B2 0 hL (by omega) (by omega) (by omega) k5 (by omega) (by omega) (by omega) (by omega) (by unfold muE; omega)) fun r hr => ?_
          obtain ⟨⟨⟨L1, a1, D1, T1, E1, B1, _⟩, _⟩, ⟨i1, _⟩⟩ := r
          obtain ⟨g1, g2, g3, g4, g5, g6, g7⟩ := hr
          dsimp only at g1 g2 g3 g4 g5 g6 g7 ⊢
          subst g1
          have wl : ((ks ++ [i1]).length : Int) = ks.length + 1 := by simp
          refine Tells.ok (jy4 (by simp only [List.length_cons, List.length_nil]; omega)) ?_
          rw [ya3 (by omega), Option.bind_some]
          have w6 : E1 ≠ 0 → D - muC D + 1 ≤ D1 ∧ D1 ≤ D + muC D := fun e => by
            have := g6 e
            unfold muE at this
            unfold muC
            omega
          have hB5 : ∀ E B' : Int, 0 ≤ B' → (E ≠ 0 → E1 ≠ 0 ∨ D1 = D + 1) → (E = 0 → E1 = 0 ∧ ¬ (nx L1 a1 = [44] ∧ ((ks ++ [i1]).length : Int) = most) ∧ ¬ (nx L1 a1 = [41] ∧ ((ks ++ [i1]).length : Int) < least)) →
              Tells (at1 G.n (qg7 G least most (nx L1 a1) op 0 0 [] [] x y K (L1, a1, D1, T1, E, B', ks ++ [i1]))) (wd5 L1 a T D (muC D) .at_) := fun E B' hb' hne ho => by
            rw [q95 hat]
            unfold qg7 wp5
            dsimp only
            have v6 : E ≠ 0 → D - muC D + 1 ≤ D1 ∧ D1 ≤ D + muC D := fun e => by
              rcases hne e with h | h
              · exact w6 h
              · unfold muC; omega
            refine Tells.ite (fun c1 => ?_) (fun c1 => Tells.ite (fun c2 => ?_) (fun c2 => ?_))
            · have c1 : nx L1 a1 ≠ [44] := by simpa using c1
              exact hB6 _ _ _ _ _ _ (by omega) g3 (by omega) hb' v6 fun e => by
                obtain ⟨o1, o2, o3⟩ := ho e
                exact ⟨(g7 o1).1, q3, q4 _ _ _ (.last (g7 o1).2 o3 c1)⟩
            · have c2 : E ≠ 0 := by simpa using c2
              exact hB6 _ _ _ _ _ _ (by omega) g3 (by omega) hb' v6 fun e => absurd e c2
            · have c2 : E = 0 := by simpa using c2
              have c1 : nx L1 a1 = [44] := by simpa using c1
              have := xp8 (show nx L1 a1 ≠ [] by rw [c1]; simp)
              obtain ⟨o1, o2, o3⟩ := ho c2
              refine Tells.ok (inI (by omega) (by omega)) (hK _ ⟨rfl, by dsimp only; omega, by dsimp only; omega, by dsimp only; omega, hb', by dsimp only; omega, fun e => v6 e, fun _ => ⟨(g7 o1).1, q2, q3, fun a' T' ks' h => q4 _ _ _ (.next (g7 o1).2 c1 (fun h => o2 ⟨c1, h⟩) h)⟩⟩ (by dsimp only; omega))
          have hB4 : Tells (at1 G.n (qv1 G least most (nx L1 a1) L1 a1 D1 T1 E1 B1 op 0 0 [] [] (ks ++ [i1]) x y K ())) (wd5 L1 a T D (muC D) .at_) := by
            rw [q95 hat]
            unfold qv1 wp4
            refine Tells.ite (fun e0 => hB5 _ _ (by omega) (fun _ => .inr (g7 (by simpa using e0)).1) (fun e => by simp at e)) (fun e0 => hB5 _ _ g5 (fun e => .inl e) (fun e => by simp [e] at e0))
          have ok5 : (E1 = 0 → ¬ (nx L1 a1 = [44] ∧ ((ks ++ [i1]).length : Int) = most) ∧ ¬ (nx L1 a1 = [41] ∧ ((ks ++ [i1]).length : Int) < least)) → Tells (at1 G.n (qg7 G least most (nx L1 a1) op 0 0 [] [] x y K (L1, a1, D1, T1, E1, B1, ks ++ [i1]))) (wd5 L1 a T D (muC D) .at_) := fun h =>
            hB5 _ _ g5 (fun e => .inl e) (fun e => ⟨e, h e⟩)
          refine Tells.ite (fun c1 => Tells.ite (fun c2 => hB4) (fun c2 => Tells.ite (fun c3 => Tells.dec (fun c4 => hB4) (fun c4 => ok5 fun _ => ?_)) (fun c3 => ok5 fun _ => ?_))) (fun c1 => Tells.ite (fun c3 => Tells.dec (fun c4 => hB4) (fun c4 => ok5 fun _ => ?_)) (fun c3 => ok5 fun _ => ?_))
          · exact ⟨fun h => (beq_eq_false_iff_ne.1 c2) h.2, fun h => c4 h.2⟩
          · exact ⟨fun h => (beq_eq_false_iff_ne.1 c2) h.2, fun h => (beq_eq_false_iff_ne.1 c3) h.1⟩
          · exact ⟨fun h => (beq_eq_false_iff_ne.1 c1) h.1, fun h => c4 h.2⟩
          · exact ⟨fun h => (beq_eq_false_iff_ne.1 c1) h.1, fun h => (beq_eq_false_iff_ne.1 c3) h.1⟩
        · have e0 : E2 ≠ 0 := by simpa using e0
          exact hB6 _ _ _ _ _ _ (by omega) (by omega) (by omega) k5 (fun e => k6 e) (fun e => absurd e e0)
      · unfold yq5
        by_cases e1 : E1 = 0
        · subst e1
          by_cases e2 : nx L (a + 1) = [40]
          · have := xp8 (show nx L (a + 1) ≠ [] by rw [e2]; simp)
            rw [if_pos rfl, if_pos e2]
            obtain ⟨o1, o2⟩ := ho rfl e2
            exact ⟨rfl, by dsimp only; omega, by dsimp only; omega, by dsimp only; omega, hb, by simp; omega, fun e => absurd rfl e, fun _ => ⟨o1, o2, e2, fun a' T' ks' h => by have e : a + 1 + 1 = a + 2 := by omega
                                                                                                                                                                                 dsimp only at h; rw [e] at h; exact h⟩⟩
          · rw [if_pos rfl, if_neg e2]
            exact ⟨rfl, by dsimp only; omega, by dsimp only; omega, by dsimp only; omega, by dsimp only; omega, by simp; omega, fun e => by unfold muC; dsimp only; omega, fun e => by simp at e⟩
        · rw [if_neg e1]
          exact ⟨rfl, by dsimp only; omega, by dsimp only; omega, by dsimp only; omega, hb, by simp; omega, fun e => by unfold muC; dsimp only; omega, fun e => absurd e e1⟩
    refine Tells.ite (fun c2 => ?_) (fun c2 => ?_)
    · have c2 : nx L (a + 1) = [40] := by simpa using c2
      refine Tells.dec (fun c3 => Tells.ok rfl (Tells.ok (inI (by omega) (by omega)) (hB2 _ _ _ (by omega) (fun _ => by omega) (fun e => by simp at e) (fun e => absurd c2 e)))) (fun c3 => ?_)
      exact Tells.ok (inI (by omega) (by omega)) (hB2 _ _ _ h4 (fun e => absurd rfl e) (fun _ _ => by omega) (fun e => absurd c2 e))
    · have c2 : nx L (a + 1) ≠ [40] := by simpa using c2
      exact hB2 _ _ _ h4 (fun e => absurd rfl e) (fun _ e => absurd e c2) (fun _ => rfl)
  exact Tells.dec (fun _ => Tells.ok (qi0 (by omega) (by omega)) (main _ _)) (fun h => absurd h2 h)
end
theorem grp {n:Nat}(hn:100000≤n):∀ d,GrOK (v13 n d) d
 |0=>⟨fun _ _ _ _ _ _ _ _ h=>absurd h (by omega),fun _ _ _ _ _ _ _ _ _ _ _ _ _ _ _ h=>by unfold muE at h;omega,fun _ _ _ _ _ _ _ _ _ _ _ _ h=>by unfold muA at h;omega,fun _ _ _ _ _ _ _ _ _ _ _ _ h=>by unfold muC at h;omega⟩
 |d+1=>by
  have ih:=grp hn d
  have hG:100000≤(v13 n d).n:=by rw[Gr0_n];exact hn
  refine⟨fun L a D T E B l h _=>expr_err h,?_,?_,?_⟩
  ·intro L a D T B l g1 g2 g3 g4 g5 g6 g7 g8 g9 g10
   exact expr_ok hG ih g1 g2 g3 g4 g5 g6 g7 g8 g9 (by omega)
  ·intro L a D T B g1 g2 g3 g4 g5 g8 g9 g10
   exact atom_ok hG ih g1 g2 g3 g4 g5 g8 g9 (by omega)
  ·intro L a D T B g1 g2 g3 g4 g5 g8 g9 g10 g11 g12
   exact call_ok hG ih g1 g2 g3 g4 g5 g8 g9 (by omega) g11 g12
section
variable {M N:Nat} (hN:100000≤M) (hl:M≤N∧M≤1000000000)
include hN hl
theorem uc2 {L:List q39}(hL:L.length≤65536){a:Int}(h1:0≤a)(h2:a≤L.length):Tells (xg7 N L a) fun r=>0≤r.2.1∧(r.2.2.1=0→a≤r.2.1∧r.2.1≤L.length∧r.1.length≤60∧∃ i,Run L (.ex 0) a [] r.2.1 r.1 [i]):=by
 unfold xg7
 refine Tells.dec (fun c=>absurd c (by omega)) (fun _=>Tells.dec (fun c=>absurd c (by omega)) (fun _=>?_))
 refine Tells.bind ((grp (by omega) N).ex L a 0 [] 0 0 hL h1 h2 (by simpa using h1) (by omega) (by omega) (by omega) (by omega) (by omega) (by unfold muE;omega)) fun r hr=>?_
 obtain⟨⟨⟨L1,a1,D1,T1,E1,B1,_⟩,_⟩,⟨i1,_⟩⟩:=r
 obtain⟨g1,g2,g3,g4,g5,g6,g7⟩:=hr
 dsimp only at g1 g2 g3 g4 g5 g6 g7 ⊢
 subst g1
 refine Tells.ite (fun c=>Tells.some ⟨g5,fun h=>?_⟩) (fun c=>?_)
 ·simp[show E1=0 from h] at c
 ·have c:E1=0:=by simpa using c
  refine Tells.dec (fun _=>Tells.some ⟨h1,fun h=>absurd h (by simp)⟩) (fun c2=>Tells.some ⟨by dsimp only;omega,fun _=>⟨g2,g3,by dsimp only;omega,i1,(g7 c).2⟩⟩)
omit hN hl in
theorem vy0 {n:Nat}{L:List q39}(hL:uq4 n L)(hn:n≤65536):Tells (yd9 N L) fun _=>True:=by
 unfold yd9
 refine Tells.ite (fun _=>Tells.some trivial) (fun c=>?_)
 have c:L.length≠0:=by intro h;simp[h] at c
 refine Tells.ok (inI (by have:=hL.len;omega) (by have:=hL.len;omega)) (Tells.ok (qi0 (by omega) (by omega)) ?_)
 have ht:=hL.tok (q17 L ((L.length:Int)-1) q33) (by
  have e:((L.length:Int)-1)=((L.length-1:Nat):Int):=by omega
  rw[e,qc8 (by omega)]
  exact List.getElem_mem _)
 generalize q17 L ((L.length:Int)-1) q33=t at ht ⊢
 obtain⟨⟨g1,g2,g3⟩,g4,g5,g6,g7⟩:=ht
 repeat' first
  |exact Tells.some trivial
  |refine Tells.ok (inI (by omega) (by omega)) ?_
  |refine Tells.ite (fun _=>?_) (fun _=>?_)
theorem k22 {s:List UInt8}(hs:s.length≤65536):Tells (zb1 N s) fun r=>r.2.2.1=0→r.1.length≤60∧∃ L p i,ja9 N s=some (L,p,0,())∧uq4 s.length L∧Run L (.ex 0) 0 [] L.length r.1 [i]:=by
 unfold zb1 xg8
 obtain⟨⟨L,p,e,_⟩,h1,h2⟩:=kl0 (s:=s) hN hl
 refine Tells.bindE h1 ?_
 dsimp only at h2 ⊢
 have h3:=h2.len
 refine Tells.ite (fun c=>Tells.some fun h=>?_) (fun c=>?_)
 ·dsimp only at h;simp[h] at c
 have c:e=0:=by simpa using c
 subst c
 refine Tells.bind (uc2 hN hl (L:=L) (by omega) (by omega) (by omega)) fun r hr=>?_
 obtain⟨T,n,f,_⟩:=r
 obtain⟨g1,g3⟩:=hr
 dsimp only at g1 g3 ⊢
 have hB2:∀ (a b e:Int),e≠0→Tells (at1 N (yj2 N L n a b e)) fun r=>r.2.2.1=0→r.1.length≤60∧∃ L p i,ja9 N s=some (L,p,0,())∧uq4 s.length L∧Run L (.ex 0) 0 [] L.length r.1 [i]:=fun a b e he=>by
  rw[q95 (by omega)]
  unfold yj2
  refine Tells.dec (fun c=>Tells.ok (qi0 g1 c) (Tells.some fun h=>absurd h he)) (fun c=>?_)
  exact Tells.bind (vy0 h2 hs) fun _ _=>Tells.some fun h=>absurd h he
 have hB1:∀ a b:Int,Tells (at1 N (jb6 N L f n a b ())) fun r=>r.2.2.1=0→r.1.length≤60∧∃ L p i,ja9 N s=some (L,p,0,())∧uq4 s.length L∧Run L (.ex 0) 0 [] L.length r.1 [i]:=fun a b=>by
  rw[q95 (by omega)]
  unfold jb6 x23
  exact Tells.ite (fun _=>hB2 _ _ _ (by omega)) (fun c=>hB2 _ _ _ (by simpa using c))
 refine Tells.ite (fun c=>Tells.ite (fun c2=>Tells.some fun _=>?_) (fun _=>hB1 _ _)) (fun _=>hB1 _ _)
 have c:f=0:=by simpa using c
 have c2:n=L.length:=by simpa using c2
 subst c2
 obtain⟨_,_,k1,i,k2⟩:=g3 c
 exact⟨k1,L,p,i,h1,h2,k2⟩
end
structure NodeOK (n:Nat) (x:q15):Prop where
 val:VOK n x.2.1
 name:x.2.2.1.length≤n
 kids:x.2.2.2.1.length≤n
def ModeOK (m:Mode):Prop:=match m with
 |.ex _|.at_=>True
 |.tl _ i=>0≤i
 |.ar _ _ ks=>∀ k∈ks,0≤k
def Outs (m:Mode)(a:Int)(T:List q15)(a':Int)(T':List q15)(o:List Int):Prop:=match m with
 |.ex _|.at_=>o=[(T'.length:Int)-1]∧T.length<T'.length∧a<a'
 |.tl _ i=>i=(T.length:Int)-1→o=[(T'.length:Int)-1]
 |.ar _ _ ks=>a<a'∧∃ ys:List Int,o=ks++ys∧(ys.length:Int)≤a'-a∧∀ y∈ys,(T.length:Int)≤y∧y<T'.length
abbrev Good (n:Nat)(X:List q15):Prop:=∀ x∈X,NodeOK n x∧∀ k∈x.2.2.2.1,0≤k
structure RunOK (n:Nat) (L:List q39) (m:Mode) (a:Int) (T:List q15) (a':Int) (T':List q15) (o:List Int):Prop where
 mono:a≤a'
 le:a≤L.length→a'≤L.length
 out:Outs m a T a' T' o
 pre:∃ X,T'=T++X∧(X.length:Int)≤a'-a∧Good n X
theorem Good.app {n:Nat}{X Y:List q15}(h:Good n X)(k:Good n Y):Good n (X++Y):=fun x hx=>(List.mem_append.1 hx).elim (h x) (k x)
theorem Good.one {n:Nat}{x:q15}(h:NodeOK n x)(k:∀ k∈x.2.2.2.1,0≤k):Good n [x]:=fun y hy=>by simp at hy;subst hy;exact⟨h,k⟩
theorem wz9 {α:Type}{xs:List α}{i:Int}{d:α}(h1:0≤i)(h2:i<xs.length):q17 xs i d∈xs:=by
 obtain⟨k,rfl⟩:∃ k:Nat,i=k:=⟨i.toNat,by omega⟩
 rw[qc8 (by omega)]
 exact List.getElem_mem _
theorem qf4 (n:Nat):VOK n v0:=⟨by simp,by simp,⟨by simp,by simp⟩,by simp⟩
theorem litF_ok {s:List UInt8}{v:q00}(h:litF s=some v)(n:Nat):VOK n v:=by
 unfold litF at h
 repeat' split at h
 all_goals first|(cases h;exact⟨by simp,by simp,⟨by simp,by simp⟩,by simp⟩)|cases h
theorem Run.ok {n:Nat}{L:List q39}(hL:uq4 n L){m:Mode}{a a':Int}{T T':List q15}{o:List Int}(h:Run L m a T a' T' o):0≤a→ModeOK m→RunOK n L m a T a' T' o:=by
 have tok:∀ a:Int,0≤a→a<L.length→kv6 n (q17 L a q33):=fun a h1 h2=>(hL.tok _ (wz9 h1 h2)).1
 have leaf:∀ {a:Int} {T:List q15} {x:q15},a<L.length→NodeOK n x→x.2.2.2.1=[]→RunOK n L .at_ a T (a+1) (T++[x]) [(T.length:Int)]:=fun {a T x} h1 h2 h3 =>
  ⟨by omega,by omega,⟨by simp<;>omega,by simp,by omega⟩,[x],rfl,by simp<;>omega,.one h2 (by rw[h3];simp)⟩
 have hlen:=hL.len
 have pre:∀ {a:Int} {T:List q15} {a':Int} {T':List q15} {i op:Int} {pl:qd5} {l l':Int},0≤a→nx L a≠[]→RunOK n L (.ex l) (a+1) T a' T' [i]→RunOK n L (.ex l') a T a' (T'++[nd op v0 [] [i] pl]) [(T'.length:Int)]:=fun {a T a' T' i op pl l l'} ha hx hr=>by
  obtain⟨g1,g2,⟨g3,g4,g5⟩,X,rfl,g7,g8⟩:=hr
  simp only[List.cons.injEq,and_true] at g3
  have:=xp8 hx
  have e:(T++X).length=T.length+X.length:=by simp
  refine⟨by omega,by omega,⟨by simp<;>omega,by simp<;>omega,by omega⟩,X++[nd op v0 [] [i] pl],by simp,by simp<;>omega,g8.app (.one ⟨qf4 n,by simp,?_⟩ fun k hk=>?_)⟩
  ·have:=g2 (by omega)
   simp only[List.length_cons,List.length_nil]
   omega
  ·simp at hk;subst hk;omega
 induction h with
 |atom _ ih=>intro h0 hm;obtain⟨g1,g2,g3,g4⟩:=ih h0 trivial;exact⟨g1,g2,g3,g4⟩
 |not hx h ih=>intro h0 _;exact pre h0 (by rw[hx];simp) (ih (by omega) trivial)
 |neg hx h ih=>intro h0 _;exact pre h0 (by rw[hx];simp) (ih (by omega) trivial)
 |@inf l a T a1 T1 i a' T' j _ _ _ _ _ _ ih1 ih2 =>
  intro h0 _
  obtain⟨g1,g2,⟨g3,g4,g5⟩,X,rfl,g7,g8⟩:=ih1 h0 trivial
  simp only[List.cons.injEq,and_true] at g3
  obtain⟨k1,k2,k3,Y,rfl,k7,k8⟩:=ih2 (by omega) (show 0≤i by omega)
  exact⟨by omega,fun h=>k2 (g2 h),⟨k3 g3,by simp at g4 ⊢<;>omega,by omega⟩,X++Y,by simp,by simp<;>omega,g8.app k8⟩
 |stop _=>intro h0 _;exact⟨by omega,id,fun h=>by rw[h],[],by simp,by simp,by simp⟩
 |@cmp i a T a1 T1 j pl hx h ih =>
  intro h0 hm
  obtain⟨g1,g2,⟨g3,g4,g5⟩,X,rfl,g7,g8⟩:=ih (by omega) trivial
  simp only[List.cons.injEq,and_true] at g3
  have:=xp8 (L:=L) (a:=a) (fun e=>hx (by rw[e];rfl))
  have e:(T++X).length=T.length+X.length:=by simp
  refine⟨by omega,by omega,fun _=>by simp<;>omega,X++[nd (ifx 3 (nx L a)) v0 [] [i,j] pl],by simp,by simp<;>omega,g8.app (.one ⟨qf4 n,by simp,?_⟩ fun k hk=>?_)⟩
  ·have:=g2 (by omega)
   simp only[List.length_cons,List.length_nil]
   omega
  ·have:0≤i:=hm
   simp at hk;rcases hk with rfl|rfl<;>omega
 |@more l i a T a1 T1 j a' T' k pl _ hx h1 h2 ih1 ih2 =>
  intro h0 hm
  obtain⟨g1,g2,⟨g3,g4,g5⟩,X,rfl,g7,g8⟩:=ih1 (by omega) trivial
  simp only[List.cons.injEq,and_true] at g3
  have:=xp8 (L:=L) (a:=a) (fun e=>hx (by rw[e];unfold ifx;simp))
  have e:(T++X).length=T.length+X.length:=by simp
  obtain⟨k1,k2,k3,Y,rfl,k7,k8⟩:=ih2 (by omega) (show (0:Int)≤_ by omega)
  refine⟨by omega,fun h=>k2 (g2 (by omega)),fun _=>k3 (by simp<;>omega),X++[nd (ifx l (nx L a)) v0 [] [i,j] pl]++Y,by simp,by simp<;>omega,(g8.app (.one ⟨qf4 n,by simp,?_⟩ fun k hk=>?_)).app k8⟩
  ·have:=g2 (by omega)
   simp only[List.length_cons,List.length_nil]
   omega
  ·have:0≤i:=hm
   simp at hk;rcases hk with rfl|rfl<;>omega
 |var h1 h2=>intro h0 _;exact leaf h1 ⟨qf4 n,(tok _ h0 h1).text,by simp⟩ rfl
 |self h1 h2=>intro h0 _;exact leaf h1 ⟨qf4 n,by simp,by simp⟩ rfl
 |lit h1 h2=>intro h0 _;exact leaf h1 ⟨(tok _ h0 h1).val,by simp,by simp⟩ rfl
 |word h1 h2 h3 h4=>intro h0 _;exact leaf h1 ⟨litF_ok h4 n,by simp,by simp⟩ rfl
 |@call a T a' T' ks pl h1 h2 h3 h4 h5 h6 ih =>
  intro h0 _
  obtain⟨g1,g2,⟨g3,ys,g4,g5,g6⟩,X,rfl,g7,g8⟩:=ih (by omega) (by intro k hk;simp at hk)
  have l1:=xp8 (show nx L (a+1)≠[] by rw[h4];simp)
  have l2:=xp8 (show nx L a'≠[] by rw[h6];simp)
  rw[List.nil_append] at g4
  subst g4
  have e:(T++X).length=T.length+X.length:=by simp
  exact⟨by omega,by omega,⟨by simp<;>omega,by simp<;>omega,by omega⟩,X++[nd (jt6 (q17 L a q33).2.1).1 v0 [] ks pl],by simp,by simp<;>omega,g8.app (.one ⟨qf4 n,by simp,by dsimp only;omega⟩ fun k hk=>by have:=g6 k hk;omega)⟩
 |@paren a T a' T' i h1 h2 h3 h4 ih =>
  intro h0 _
  obtain⟨g1,g2,⟨g3,g4,g5⟩,X,rfl,g7,g8⟩:=ih (by omega) trivial
  have l2:=xp8 (show nx L a'≠[] by rw[h4];simp)
  exact⟨by omega,by omega,⟨g3,g4,by omega⟩,X,rfl,by omega,g8⟩
 |@last least most ks a T a' T' i h1 h2 h3 ih =>
  intro h0 _
  obtain⟨g1,g2,⟨g3,g4,g5⟩,X,rfl,g7,g8⟩:=ih (by omega) trivial
  simp only[List.cons.injEq,and_true] at g3
  exact⟨by omega,g2,⟨by omega,[i],rfl,by simp<;>omega,fun y hy=>by simp at hy;subst hy;omega⟩,X,rfl,by omega,g8⟩
 |@next least most ks a T a1 T1 i a' T' ks' h1 h2 h3 h4 ih1 ih2 =>
  intro h0 hm
  obtain⟨g1,g2,⟨g3,g4,g5⟩,X,rfl,g7,g8⟩:=ih1 (by omega) trivial
  simp only[List.cons.injEq,and_true] at g3
  have l2:=xp8 (show nx L a1≠[] by rw[h2];simp)
  have e:(T++X).length=T.length+X.length:=by simp
  obtain⟨k1,k2,⟨k3,ys,k4,k5,k6⟩,Y,rfl,k7,k8⟩:=ih2 (by omega) (fun k hk=>by
   rcases List.mem_append.1 hk with h|h
   ·exact hm k h
   ·simp at h;subst h;omega)
  refine⟨by omega,fun h=>k2 (by omega),⟨by omega,i::ys,by rw[k4];simp,by simp<;>omega,fun y hy=>?_⟩,X++Y,by simp,by simp<;>omega,g8.app k8⟩
  have e2:(T++X++Y).length=T.length+X.length+Y.length:=by simp<;>omega
  simp only[List.mem_cons] at hy
  rcases hy with rfl|hy
  ·omega
  ·have:=k6 y hy;omega
end Go.Proofs.YtgicljncknbgcaaGreat.Abs
