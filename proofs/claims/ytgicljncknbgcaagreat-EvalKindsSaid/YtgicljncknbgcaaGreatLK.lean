/- EvalKinds of this seat: for every input the law returns true, and its arguments read as they did: the last step of its proof. -/
import Derived.Test.YtgicljncknbgcaaGreatL7
import Derived.Test.YtgicljncknbgcaaGreatK3
import Derived.HandedShaped
import Derived.Test.YtgicljncknbgcaaGreatRows
import Derived.Test.YtgicljncknbgcaaGreatShelf
set_option linter.unusedVariables false
set_option linter.unusedSimpArgs false
set_option linter.unusedSectionVars false
namespace Go.Proofs.YtgicljncknbgcaaGreat.evalKinds
open Abs
open Go.ChangeShapes Go.WideShapes Go.ChangeAt Go.RowKit
theorem own :ownKnob Tryz.prog.godebug=none:=by kernel_rfl
theorem laid :laidOutB Tryz.prog=true:=by kernel_rfl
theorem gi {W:World}(h:W.ShapedOpen Tryz.prog):GI Tryz.prog G00 W:=fun _=>by
 obtain⟨m,hm⟩:=Tryz.laysM144.s1_3 W h
 exact⟨⟨m,hm⟩,(kb2 hm).2,fun⟨i,hi,_⟩=>by simp[G00] at hi,rfl⟩
theorem wfV {v:q00}(h:Wf q05 v):WfV v:=by
 obtain⟨⟨a1,a2⟩,⟨b1,b2⟩,c,_⟩:=h
 exact⟨a1,a2,b1,b2⟩
theorem wfL {v:q00}(h:Wf q05 v):v.2.2.1.length≤9223372036854775807:=by
 obtain⟨_,_,c,_⟩:=h
 exact c
theorem tells (x:Els [.str,wj4,q05,(.list q05)])(h:Wfs [.str,wj4,q05,(.list q05)] x):∃ N,qy4 N x.1 x.2.1 x.2.2.1 x.2.2.2.1=some true:=by
 obtain⟨_,_,h1,⟨_,h2⟩,_⟩:=h
 exact⟨2000000,(ky1 ⟨wfV h1,wfL h1⟩ (fun b hb=>⟨wfV (h2 b hb),wfL (h2 b hb)⟩)).get⟩
set_option maxRecDepth 100000 in
theorem lifted (os:Os)(started:os.Started)(H:Type)(enc:TypeId×Value→H):
  ReturnsInHanded {} Tryz.checked os 3 .any (Rows.evalKindsSpec.pre6 enc Tryz.prog Tryz.f3 Rows.evalKindsRow.domain false) (Rows.evalKindsSpec.post enc Tryz.prog Tryz.f3 false true false false):=by
 refine returnsInHanded_of_change_shaped (C:=Tryz.checked) own started (by kernel_rfl) Tryz.func3
  (ChangeSpec.witness6 (enc:=enc) (C:=Tryz.checked) false ⟨#[],#[.string ⟨#[]⟩,.agg #[.slice none 0 0,.int .u8 0],.agg #[.int .u8 0,.int .i64 0,.string ⟨#[]⟩],.slice none 0 0],[]⟩ 8 (by kernel_rfl) (by kernel_rfl) (by kernel_rfl) (by kernel_rfl)) ?_
 intro W base args ds gs before hval0 hW hcnd _ hsh _
 have hval:∀ (j:Nat) t v,Tryz.f3.params[j]?=some t→args[j]?=some v→Value.okWide Tryz.prog W .any base t v:=hval0
 have hW':DataW.Whole enc Tryz.prog Tryz.f3.params.toList Rows.evalKindsSpec.vars false W args.toList ds gs before:=hW
 have hW2:=hW'
 obtain⟨p,q,hA0,hV,rfl,hfz,hnd⟩:=hW2
 have hA:DataW.TrodAll enc Tryz.prog W 0 (fun _=>true) true Tryz.f3.params.toList args.toList ds p:=hA0
 obtain⟨rfl,rfl⟩:=trodVars_none hV
 have hwk:=ke1 (pts:=[.str,wj4,q05,(.list q05)]) (m:=fun N x=>qy4 N x.1 x.2.1 x.2.2.1 x.2.2.2.1) (fun N=>x60 N) tells (fun x=>rfl) (by kernel_rfl) W (gi hsh) hval hA
 obtain⟨d1,d2,d3,d4,rfl⟩:=list4 (yt3 hA)
 refine hwk.mono fun e W' ⟨he,hg⟩=>?_
 subst he
 exact⟨_,rfl,law_post laid (by decide +kernel) rfl rfl Tryz.underlying4 hW' rfl rfl rfl hg⟩
theorem over :Rows.evalKindsRow.holds Tryz.pinned (OpenSpec.ofChange Rows.evalKindsSpec) :=
 OpenClaim.holds_of_wide 3 Tryz.f3 rfl rfl rfl rfl rfl rfl rfl ⟨rfl,rfl,rfl,rfl,rfl⟩ rfl rfl rfl rfl rfl (by kernel_rfl) Tryz.func3 (by kernel_rfl)
  (of_decide_eq_true (by kernel_rfl)) (by unfold Func.isWrapper;first|(rw[if_pos (by decide +kernel)];kernel_rfl)|(rw[if_neg (by decide +kernel)];exact⟨rfl,rfl⟩))
  (fun os started H enc _=>lifted os started H enc)
theorem proved :Rows.EvalKindsSaid :=
 over
#print axioms proved
end Go.Proofs.YtgicljncknbgcaaGreat.evalKinds
