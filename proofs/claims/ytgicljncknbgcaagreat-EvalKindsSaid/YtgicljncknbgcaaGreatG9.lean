/- The functions of the program, told on typed values, printed by a program: each tells what the reckoning of its body tells. -/
import Derived.Test.YtgicljncknbgcaaGreatL7
import Derived.Test.YtgicljncknbgcaaGreatG8
import Derived.Test.YtgicljncknbgcaaGreatE2
import Derived.Test.YtgicljncknbgcaaGreatLA
import Derived.Test.YtgicljncknbgcaaGreatProg
set_option linter.unusedVariables false
set_option linter.unusedSimpArgs false
set_option linter.unusedSectionVars false
namespace Go.Proofs.YtgicljncknbgcaaGreat.Abs
set_option maxRecDepth 100000
open Go Go.Proofs
def zb0 (N:Nat)(v:q00):Option Bool:=bif Nat.ble v.2.2.1.length 9223372036854775807 then some (vh2 v) else none
def yz8 (N:Nat):Ent:=jm0 (zb0 N)
theorem yi3 {N:Nat}{v:q00}(h:v.2.2.1.length≤9223372036854775807):zb0 N v=some (vh2 v):=by
 unfold zb0
 rw[Nat.ble_eq_true_of_le h]
 rfl
theorem uz8 (N:Nat):q16 Tryz.prog 14 (yz8 N):=by
 intro β args s k b h
 unfold yz8 jm0 q29 at h
 split at h
 case h_2=>cases h
 rename_i x hx
 split at h
 case h_2=>cases h
 rename_i r hr
 obtain⟨v,u⟩:=x
 have key:∀ (v:q00) (r:Bool),zb0 N v=some r→∃ M,zl0 M v=some r:=fun v r h=>by
  by_cases hl:v.2.2.1.length≤9223372036854775807
  ·rw[yi3 hl] at h
   obtain⟨r',h1,h2⟩:=x63 (v.2.2.1.length+100) v (by omega) hl (by omega)
   rw[yf9] at h1
   exact⟨_,by rw[h2,← h1,h]⟩
  ·unfold zb0 at h
   have:Nat.ble v.2.2.1.length 9223372036854775807=false:=by
    cases hb:Nat.ble v.2.2.1.length 9223372036854775807 with
    |false=>rfl
    |true=>exact absurd (Nat.le_of_ble_eq_true hb) hl
   rw[this] at h
   cases h
 obtain⟨M,hM⟩:=key v r hr
 refine yb2 M β args s k b ?_
 unfold yi2 jm0 q29
 rw[hx]
 dsimp only
 rw[hM]
 exact h
def wg1 :LH:=⟨[(3,.lst q05),(6,.asis),(9,.lst q49),(12,.int .u8),(14,.own qf6 514 43 4),(62,.lst wq8),(63,.int .i64),(64,.int .i64)],[],[.cells [.lst wq8,.int .u8],.cells [.int .u8,.int .i64,.str],.cells [.int .i64,.int .i64],.cells [.int .i64,.int .i64]]⟩
def qi1 :FH:=⟨[wg1],[],[(14,⟨19,142,0,[],[]⟩)],[],false,[],[]⟩
noncomputable def zw3 (N:Nat):q46:=tab [(11,jn8 N),(12,xl0 N),(13,kp0 N),(14,yz8 N),(15,j21 N)]
theorem vf5 (N:Nat):q13 Tryz.prog (zw3 N):=q06 (jn9 N)<|q06 (u71 N)<|q06 (q2b N)<|q06 (uz8 N)<|q06 (jq6 N)<|q25 _
noncomputable def qo2 :Sc:=w89 Tryz.prog qi1
noncomputable def qo1 (N:Nat):Cfg:=⟨N,zw3 N,0⟩
noncomputable def wy9 (N:Nat):Exit→KT Bool:=fin Tryz.prog 0 Tryz.f3.results.toList (q38 [.bool])
def zc3 (vals:List q00)(t2:List q15)(kind2:Int)(t622:List q86)(t632:Int)(w12:List q86)(w10 qh3 wj1:Int)(wj3:List UInt8)(w14 wo3 w16 wo6:Int)(e:List q30×Int):List TV:=match e with|(vars2,t642)=>frm 142 [(3,.tl q05 vals .unk),(6,.ref 1 0),(9,.tl q49 t2 .unk),(12,.int .u8 kind2),(14,.tl qf6 vars2 (.own 514 43 4)),(62,.tl wq8 t622 .unk),(63,.int .i64 t632),(64,.int .i64 t642)]
def zc6 (vals:List q00)(t2:List q15)(kind2:Int)(t622:List q86)(t632:Int)(w12:List q86)(w10 qh3 wj1:Int)(wj3:List UInt8)(w14 wo3 w16 wo6:Int)(e:List q30×Int):List TOb:=match e with|(vars2,t642)=>[.cells [.tl wq8 w12 .unk,.int .u8 w10] 24 true,.cells [.int .u8 qh3,.int .i64 wj1,.str wj3] 26 true,.cells [.int .i64 w14,.int .i64 wo3] 31 true,.cells [.int .i64 w16,.int .i64 wo6] 31 true]
def zc2 (vals:List q00)(t1:List q15)(kind1:Int)(t621:List q86)(t631:Int)(w11:List q86)(w09 qh2 wj0:Int)(wj2:List UInt8)(w13 wo2 w15 wo5:Int)(e:List q30×Int):List TV:=match e with|(vars1,t641)=>frm 142 [(3,.tl q05 vals .unk),(6,.ref 1 0),(9,.tl q49 t1 .unk),(12,.int .u8 kind1),(14,.tl qf6 vars1 (.own 514 43 4)),(62,.tl wq8 t621 .unk),(63,.int .i64 t631),(64,.int .i64 t641)]
def zc5 (vals:List q00)(t1:List q15)(kind1:Int)(t621:List q86)(t631:Int)(w11:List q86)(w09 qh2 wj0:Int)(wj2:List UInt8)(w13 wo2 w15 wo5:Int)(e:List q30×Int):List TOb:=match e with|(vars1,t641)=>[.cells [.tl wq8 w11 .unk,.int .u8 w09] 24 true,.cells [.int .u8 qh2,.int .i64 wj0,.str wj2] 26 true,.cells [.int .i64 w13,.int .i64 wo2] 31 true,.cells [.int .i64 w15,.int .i64 wo5] 31 true]
def zc1 (vals:List q00)(t:List q15)(kind:Int)(t62:List q86)(t63:Int)(wo1:List q86)(wo0 q52 q89:Int)(q90:List UInt8)(wo4 zz0 wo7 zz1:Int)(e:List q30×Int):List TV:=match e with|(vars,t64)=>frm 142 [(3,.tl q05 vals .unk),(6,.ref 1 0),(9,.tl q49 t .unk),(12,.int .u8 kind),(14,.tl qf6 vars (.own 514 43 4)),(62,.tl wq8 t62 .unk),(63,.int .i64 t63),(64,.int .i64 t64)]
def zc4 (vals:List q00)(t:List q15)(kind:Int)(t62:List q86)(t63:Int)(wo1:List q86)(wo0 q52 q89:Int)(q90:List UInt8)(wo4 zz0 wo7 zz1:Int)(e:List q30×Int):List TOb:=match e with|(vars,t64)=>[.cells [.tl wq8 wo1 .unk,.int .u8 wo0] 24 true,.cells [.int .u8 q52,.int .i64 q89,.str q90] 26 true,.cells [.int .i64 wo4,.int .i64 zz0] 31 true,.cells [.int .i64 wo7,.int .i64 zz1] 31 true]
noncomputable def jt0 (N:Nat):(KT Bool)→KT Bool:=qy2 DR qo2 (qo1 N) (nv [5,4,1,0,1,1,1,1,1,1,1] Tryz.f3) wg1 (qi1.loops.drop 1) (qd6 0 (qa6 DR qo2 (qo1 N) (nv [1,1,1,1,1,1,1,1] Tryz.f3) (qi1.loops.drop 1) (wy9 N)))
def wg0 (N:Nat)(vals:List q00)(t:List q15)(kind:Int)(t62:List q86)(t63:Int)(wo1:List q86)(wo0 q52 q89:Int)(q90:List UInt8)(wo4 zz0 wo7 zz1:Int)(K0:(List q30×Int)→Option Bool)(e:List q30×Int):Option Bool:=match e with|(vars,t64)=>bif decide (t64<t63) then bif inR t64 t62.length then bif decide (t64<(vals.length:Int)) then bif inR t64 vals.length then (zb0 N (q17 vals t64 q26)).bind fun r6=>bif r6 then bif inR t64 vals.length then bif (((q17 vals t64 q26).1)==((q17 t62 t64 qo7).2.1)) then bif inR t64 vals.length then bif qr1 (vars.length+([((q17 t62 t64 qo7).1,(q17 vals t64 q26),())]:List q30).length) 2932031007402 then bif q24 (t64+1) then K0 ((vars++([((q17 t62 t64 qo7).1,(q17 vals t64 q26),())]:List q30)),t64+1) else none else none else none else bif qr1 (vars.length+([((q17 t62 t64 qo7).1,(0,0,[],()),())]:List q30).length) 2932031007402 then bif q24 (t64+1) then K0 ((vars++([((q17 t62 t64 qo7).1,(0,0,[],()),())]:List q30)),t64+1) else none else none else none else bif qr1 (vars.length+([((q17 t62 t64 qo7).1,(0,0,[],()),())]:List q30).length) 2932031007402 then bif q24 (t64+1) then K0 ((vars++([((q17 t62 t64 qo7).1,(0,0,[],()),())]:List q30)),t64+1) else none else none else none else bif qr1 (vars.length+([((q17 t62 t64 qo7).1,(0,0,[],()),())]:List q30).length) 2932031007402 then bif q24 (t64+1) then K0 ((vars++([((q17 t62 t64 qo7).1,(0,0,[],()),())]:List q30)),t64+1) else none else none else none else (qt4 N t (q52,q89,q90,()) vars).bind fun r7=>bif (r7.2.1 != 0) then bif ((r7.1.1==(0:Int))&&((r7.1.2.1==(0:Int))&&((r7.1.2.2.1==([]:List UInt8))&&true))) then bif (r7.2.1==9) then (qd1 N).bind fun r8=>some r8 else bif (r7.2.1==10) then (qd1 N).bind fun r9=>some r9 else some false else some false else (zb0 N r7.1).bind fun r10=>bif r10 then bif (r7.1.1==kind) then (qd1 N).bind fun r11=>some r11 else bif (r7.1.1==0) then (qd1 N).bind fun r12=>some r12 else some false else some false
theorem vf6 (N:Nat)(vals:List q00)(t:List q15)(kind:Int)(t62:List q86)(t63:Int)(wo1:List q86)(wo0 q52 q89:Int)(q90:List UInt8)(wo4 zz0 wo7 zz1:Int)(n_:Nat)(e:List q30×Int):q55 (jt0 N ) n_ ((zc1 vals t kind t62 t63 wo1 wo0 q52 q89 q90 wo4 zz0 wo7 zz1) e) ((zc4 vals t kind t62 t63 wo1 wo0 q52 q89 q90 wo4 zz0 wo7 zz1) e)=q80 (wg0 N vals t kind t62 t63 wo1 wo0 q52 q89 q90 wo4 zz0 wo7 zz1 ) n_ e :=
 q36 (zc1 vals t kind t62 t63 wo1 wo0 q52 q89 q90 wo4 zz0 wo7 zz1) (zc4 vals t kind t62 t63 wo1 wo0 q52 q89 q90 wo4 zz0 wo7 zz1) (by intro K e;obtain⟨vars,t64⟩:=e;kernel_rfl) n_ e
noncomputable def jt1 (N:Nat):(KT Bool)→KT Bool:=qy2 DR qo2 (qo1 N) (nv [5,4,1,0,1,1,1,1,1,1,1] Tryz.f3) wg1 (qi1.loops.drop 1) (qd6 0 (qa6 DR qo2 (qo1 N) (nv [1,1,1,1,1,1,1,1] Tryz.f3) (qi1.loops.drop 1) (wy9 N)))
def js8 (N:Nat)(vals:List q00)(t1:List q15)(kind1:Int)(t621:List q86)(t631:Int)(w11:List q86)(w09 qh2 wj0:Int)(wj2:List UInt8)(w13 wo2 w15 wo5:Int)(K0:(List q30×Int)→Option Bool)(e:List q30×Int):Option Bool:=match e with|(vars1,t641)=>bif decide (t641<t631) then bif inR t641 t621.length then bif decide (t641<(vals.length:Int)) then bif inR t641 vals.length then (zb0 N (q17 vals t641 q26)).bind fun r14=>bif r14 then bif inR t641 vals.length then bif (((q17 vals t641 q26).1)==((q17 t621 t641 qo7).2.1)) then bif inR t641 vals.length then bif qr1 (vars1.length+([((q17 t621 t641 qo7).1,(q17 vals t641 q26),())]:List q30).length) 2932031007402 then bif q24 (t641+1) then K0 ((vars1++([((q17 t621 t641 qo7).1,(q17 vals t641 q26),())]:List q30)),t641+1) else none else none else none else bif qr1 (vars1.length+([((q17 t621 t641 qo7).1,(0,0,[],()),())]:List q30).length) 2932031007402 then bif q24 (t641+1) then K0 ((vars1++([((q17 t621 t641 qo7).1,(0,0,[],()),())]:List q30)),t641+1) else none else none else none else bif qr1 (vars1.length+([((q17 t621 t641 qo7).1,(0,0,[],()),())]:List q30).length) 2932031007402 then bif q24 (t641+1) then K0 ((vars1++([((q17 t621 t641 qo7).1,(0,0,[],()),())]:List q30)),t641+1) else none else none else none else bif qr1 (vars1.length+([((q17 t621 t641 qo7).1,(0,0,[],()),())]:List q30).length) 2932031007402 then bif q24 (t641+1) then K0 ((vars1++([((q17 t621 t641 qo7).1,(0,0,[],()),())]:List q30)),t641+1) else none else none else none else (qt4 N t1 (qh2,wj0,wj2,()) vars1).bind fun r15=>bif (r15.2.1 != 0) then bif ((r15.1.1==(0:Int))&&((r15.1.2.1==(0:Int))&&((r15.1.2.2.1==([]:List UInt8))&&true))) then bif (r15.2.1==9) then (qd1 N).bind fun r16=>some r16 else bif (r15.2.1==10) then (qd1 N).bind fun r17=>some r17 else some false else some false else (zb0 N r15.1).bind fun r18=>bif r18 then bif (r15.1.1==kind1) then (qd1 N).bind fun r19=>some r19 else bif (r15.1.1==0) then (qd1 N).bind fun r20=>some r20 else some false else some false
theorem vf7 (N:Nat)(vals:List q00)(t1:List q15)(kind1:Int)(t621:List q86)(t631:Int)(w11:List q86)(w09 qh2 wj0:Int)(wj2:List UInt8)(w13 wo2 w15 wo5:Int)(n_:Nat)(e:List q30×Int):q55 (jt1 N ) n_ ((zc2 vals t1 kind1 t621 t631 w11 w09 qh2 wj0 wj2 w13 wo2 w15 wo5) e) ((zc5 vals t1 kind1 t621 t631 w11 w09 qh2 wj0 wj2 w13 wo2 w15 wo5) e)=q80 (js8 N vals t1 kind1 t621 t631 w11 w09 qh2 wj0 wj2 w13 wo2 w15 wo5 ) n_ e :=
 q36 (zc2 vals t1 kind1 t621 t631 w11 w09 qh2 wj0 wj2 w13 wo2 w15 wo5) (zc5 vals t1 kind1 t621 t631 w11 w09 qh2 wj0 wj2 w13 wo2 w15 wo5) (by intro K e;obtain⟨vars1,t641⟩:=e;kernel_rfl) n_ e
noncomputable def jt2 (N:Nat):(KT Bool)→KT Bool:=qy2 DR qo2 (qo1 N) (nv [5,4,1,0,1,1,1,1,1,1,1] Tryz.f3) wg1 (qi1.loops.drop 1) (qd6 0 (qa6 DR qo2 (qo1 N) (nv [1,1,1,1,1,1,1,1] Tryz.f3) (qi1.loops.drop 1) (wy9 N)))
def js9 (N:Nat)(vals:List q00)(t2:List q15)(kind2:Int)(t622:List q86)(t632:Int)(w12:List q86)(w10 qh3 wj1:Int)(wj3:List UInt8)(w14 wo3 w16 wo6:Int)(K0:(List q30×Int)→Option Bool)(e:List q30×Int):Option Bool:=match e with|(vars2,t642)=>bif decide (t642<t632) then bif inR t642 t622.length then bif decide (t642<(vals.length:Int)) then bif inR t642 vals.length then (zb0 N (q17 vals t642 q26)).bind fun r21=>bif r21 then bif inR t642 vals.length then bif (((q17 vals t642 q26).1)==((q17 t622 t642 qo7).2.1)) then bif inR t642 vals.length then bif qr1 (vars2.length+([((q17 t622 t642 qo7).1,(q17 vals t642 q26),())]:List q30).length) 2932031007402 then bif q24 (t642+1) then K0 ((vars2++([((q17 t622 t642 qo7).1,(q17 vals t642 q26),())]:List q30)),t642+1) else none else none else none else bif qr1 (vars2.length+([((q17 t622 t642 qo7).1,(0,0,[],()),())]:List q30).length) 2932031007402 then bif q24 (t642+1) then K0 ((vars2++([((q17 t622 t642 qo7).1,(0,0,[],()),())]:List q30)),t642+1) else none else none else none else bif qr1 (vars2.length+([((q17 t622 t642 qo7).1,(0,0,[],()),())]:List q30).length) 2932031007402 then bif q24 (t642+1) then K0 ((vars2++([((q17 t622 t642 qo7).1,(0,0,[],()),())]:List q30)),t642+1) else none else none else none else bif qr1 (vars2.length+([((q17 t622 t642 qo7).1,(0,0,[],()),())]:List q30).length) 2932031007402 then bif q24 (t642+1) then K0 ((vars2++([((q17 t622 t642 qo7).1,(0,0,[],()),())]:List q30)),t642+1) else none else none else none else (qt4 N t2 (qh3,wj1,wj3,()) vars2).bind fun r22=>bif (r22.2.1 != 0) then bif ((r22.1.1==(0:Int))&&((r22.1.2.1==(0:Int))&&((r22.1.2.2.1==([]:List UInt8))&&true))) then bif (r22.2.1==9) then (qd1 N).bind fun r23=>some r23 else bif (r22.2.1==10) then (qd1 N).bind fun r24=>some r24 else some false else some false else (zb0 N r22.1).bind fun r25=>bif r25 then bif (r22.1.1==kind2) then (qd1 N).bind fun r26=>some r26 else bif (r22.1.1==0) then (qd1 N).bind fun r27=>some r27 else some false else some false
theorem vf8 (N:Nat)(vals:List q00)(t2:List q15)(kind2:Int)(t622:List q86)(t632:Int)(w12:List q86)(w10 qh3 wj1:Int)(wj3:List UInt8)(w14 wo3 w16 wo6:Int)(n_:Nat)(e:List q30×Int):q55 (jt2 N ) n_ ((zc3 vals t2 kind2 t622 t632 w12 w10 qh3 wj1 wj3 w14 wo3 w16 wo6) e) ((zc6 vals t2 kind2 t622 t632 w12 w10 qh3 wj1 wj3 w14 wo3 w16 wo6) e)=q80 (js9 N vals t2 kind2 t622 t632 w12 w10 qh3 wj1 wj3 w14 wo3 w16 wo6 ) n_ e :=
 q36 (zc3 vals t2 kind2 t622 t632 w12 w10 qh3 wj1 wj3 w14 wo3 w16 wo6) (zc6 vals t2 kind2 t622 t632 w12 w10 qh3 wj1 wj3 w14 wo3 w16 wo6) (by intro K e;obtain⟨vars2,t642⟩:=e;kernel_rfl) n_ e
def zw4 (N:Nat)(s:List UInt8)(scope:qw2)(self:q00)(vals:List q00)(l1 l2 l3:(List q00)→(List q15)→Int→(List q86)→Int→(List q86)→Int→Int→Int→(List UInt8)→Int→Int→Int→Int→(List q30×Int)→Option Bool):Option Bool:=(zb1 N s).bind fun r=>bif decide ((s.length:Int)>600) then (qd1 N).bind fun r1=>some r1 else bif (r.2.2.1 != 0) then (qd1 N).bind fun r2=>some r2 else bif decide ((scope.1.length:Int)>40) then (qd1 N).bind fun r3=>some r3 else (w1i N r.1 scope).bind fun r4=>bif (r4.2.2.1 != 0) then (qd1 N).bind fun r5=>some r5 else bif (self.1 != scope.2.1) then l1 vals r.1 r4.1 scope.1 (scope.1.length:Int) scope.1 scope.2.1 0 0 [] r.2.1.1 r.2.1.2.1 r4.2.1.1 r4.2.1.2.1 ([],0) else (zb0 N self).bind fun r13=>bif (!r13) then l2 vals r.1 r4.1 scope.1 (scope.1.length:Int) scope.1 scope.2.1 0 0 [] r.2.1.1 r.2.1.2.1 r4.2.1.1 r4.2.1.2.1 ([],0) else l3 vals r.1 r4.1 scope.1 (scope.1.length:Int) scope.1 scope.2.1 self.1 self.2.1 self.2.2.1 r.2.1.1 r.2.1.2.1 r4.2.1.1 r4.2.1.2.1 ([],0)
def qy4 (N:Nat)(s:List UInt8)(scope:qw2)(self:q00)(vals:List q00):Option Bool:=zw4 N s scope self vals (fun vals t kind t62 t63 wo1 wo0 q52 q89 q90 wo4 zz0 wo7 zz1 e=>q80 (wg0 N vals t kind t62 t63 wo1 wo0 q52 q89 q90 wo4 zz0 wo7 zz1) N e) (fun vals t1 kind1 t621 t631 w11 w09 qh2 wj0 wj2 w13 wo2 w15 wo5 e=>q80 (js8 N vals t1 kind1 t621 t631 w11 w09 qh2 wj0 wj2 w13 wo2 w15 wo5) N e) (fun vals t2 kind2 t622 t632 w12 w10 qh3 wj1 wj3 w14 wo3 w16 wo6 e=>q80 (js9 N vals t2 kind2 t622 t632 w12 w10 qh3 wj1 wj3 w14 wo3 w16 wo6) N e)
noncomputable def yh0 (N:Nat)(s:List UInt8)(scope:qw2)(self:q00)(vals:List q00):Option (RT [.bool]):=q20 DR Tryz.prog N (zw3 N) qi1 Tryz.f3 (q31 Tryz.f3) (RT [.bool]) (qb7 [.str,wj4,q05,(.list q05)] (s,scope,self,vals,())) [] (q38 [.bool])
theorem v11 (N:Nat)(s:List UInt8)(scope:qw2)(self:q00)(vals:List q00):yh0 N s scope self vals=qy4 N s scope self vals:=by
 have h:yh0 N s scope self vals=zw4 N s scope self vals (fun vals t kind t62 t63 wo1 wo0 q52 q89 q90 wo4 zz0 wo7 zz1 e=>q55 (jt0 N ) N (zc1 vals t kind t62 t63 wo1 wo0 q52 q89 q90 wo4 zz0 wo7 zz1 e) (zc4 vals t kind t62 t63 wo1 wo0 q52 q89 q90 wo4 zz0 wo7 zz1 e)) (fun vals t1 kind1 t621 t631 w11 w09 qh2 wj0 wj2 w13 wo2 w15 wo5 e=>q55 (jt1 N ) N (zc2 vals t1 kind1 t621 t631 w11 w09 qh2 wj0 wj2 w13 wo2 w15 wo5 e) (zc5 vals t1 kind1 t621 t631 w11 w09 qh2 wj0 wj2 w13 wo2 w15 wo5 e)) (fun vals t2 kind2 t622 t632 w12 w10 qh3 wj1 wj3 w14 wo3 w16 wo6 e=>q55 (jt2 N ) N (zc3 vals t2 kind2 t622 t632 w12 w10 qh3 wj1 wj3 w14 wo3 w16 wo6 e) (zc6 vals t2 kind2 t622 t632 w12 w10 qh3 wj1 wj3 w14 wo3 w16 wo6 e)):=by kernel_rfl
 rw[h]
 simp only[qy4,vf6,vf7,vf8]<;>rfl
def xk9 (m:(List UInt8)→qw2→q00→(List q00)→Option Bool):Ent:=q29 [.str,wj4,q05,(.list q05)] [.bool] fun (x:Els [.str,wj4,q05,(.list q05)])=>m x.1 x.2.1 x.2.2.1 x.2.2.2.1
def v10 (N:Nat):Ent:=xk9 (qy4 N)
theorem x60 (N:Nat):q16 Tryz.prog 3 (v10 N):=q10 (vf5 N) Tryz.func3 rfl (by kernel_rfl) fun (x:Els [.str,wj4,q05,(.list q05)])=>v11 N x.1 x.2.1 x.2.2.1 x.2.2.2.1
end Go.Proofs.YtgicljncknbgcaaGreat.Abs
