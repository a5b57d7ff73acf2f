/- EvalIfs: words and answers of 'if' with two texts in it. -/
import Derived.Test.YtgicljncknbgcaaGreatX2
import Derived.Test.YtgicljncknbgcaaGreatN1
set_option linter.unusedVariables false
set_option linter.unusedSimpArgs false
set_option linter.unusedSectionVars false
namespace Go.Proofs.YtgicljncknbgcaaGreat.Abs
open Go
end Go.Proofs.YtgicljncknbgcaaGreat.Abs
namespace Go.Proofs.YtgicljncknbgcaaGreat.Abs
theorem known10 :qd1 2000000=some true:=by kernel_rfl
open Go
theorem z73 :Tells ((qd1 2000000).bind fun r=>some r) fun r=>r=true:=by rw[known10];exact Tells.some rfl
theorem VOK.up {n m:Nat}{v:q00}(h:VOK n v)(k:n≤m):VOK m v:=⟨h.1,h.2.1,h.2.2.1,Nat.le_trans h.2.2.2 k⟩
structure Rd (N:Nat) (s:List UInt8) (t:List q15):Prop where
 ex:∃ L i,Lx N s L∧Run L (.ex 0) 0 [] L.length t [i]∧i=(t.length:Int)-1
 pos:0<t.length
 len:t.length≤60
 good:Good s.length t
theorem uo3 {N:Nat}(hN:1000000≤N){s:List UInt8}(hs:s.length≤65536):Tells (zb1 N s) fun r=>r.2.2.1=0→Rd N s r.1:=by
 refine(k22 (M:=100000) (by omega) ⟨by omega,by omega⟩ hs).mono fun r hr h0=>?_
 obtain⟨k1,L,p,i,k2,k3,k4⟩:=hr h0
 have hrun:=Run.ok k3 k4 (by omega) trivial
 obtain⟨X,hX,_,hG⟩:=hrun.pre
 rw[List.nil_append] at hX
 obtain⟨g1,g2,_⟩:=hrun.out
 simp only[List.cons.injEq,and_true] at g1
 have hl:=Lex_is (by omega) k2 rfl
 refine⟨⟨L.map qw0,i,hl,?_,g1⟩,by simpa using g2,k1,by rw[hX];exact hG⟩
 rw[List.length_map]
 exact k4.bare
end Go.Proofs.YtgicljncknbgcaaGreat.Abs
