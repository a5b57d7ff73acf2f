/- The walk of package eval's upper: a text's bytes, made great in their place. -/
import Derived.WalkKit
import Derived.ProofKit
import Derived.Laws.IdiomStrings
import Derived.Test.YtgicljncknbgcaaGreatProg
set_option linter.unusedVariables false
set_option linter.unusedSimpArgs false
set_option linter.unusedSectionVars false
namespace Go.Proofs.YtgicljncknbgcaaGreat.Abs.Upper
open Go Go.Proofs Go.ChangeShapes Go.WideShapes Go.ChangeAt Go.RowKit
theorem xm0 {p:Prop}(h:p):Hid p:=h
def upB (c:UInt8):UInt8:=if 97≤c.toNat∧c.toNat≤122 then UInt8.ofNat (c.toNat-32) else c
def atK (s:List UInt8)(k j:Nat)(h:j<s.length):Value:=.int .u8 ((if j<k then upB s[j] else s[j]).toNat:Int)
def RowK (w:World)(b:Nat)(s:List UInt8)(k:Nat):Prop:=∀ j (h:j<s.length),w.cell? ⟨b,j,none⟩=some (atK s k j h)∧w.frozen? ⟨b,j,none⟩=false
def Four (W:World)(g:Nat):Prop:=W.heap[g]?=some (.cells #[.int .u8 0,.int .i64 0,.string ⟨#[]⟩,.int .i64 0] 115 (0,0))
theorem Four.facts {W:World}{g:Nat}(h:Four W g):
  W.cell? ⟨g,0,none⟩=some (.int .u8 0)∧W.cell? ⟨g,1,none⟩=some (.int .i64 0)∧W.cell? ⟨g,2,none⟩=some (.string ⟨#[]⟩)∧W.cell? ⟨g,3,none⟩=some (.int .i64 0) ∧
  W.frozen? ⟨g,0,none⟩=false∧W.frozen? ⟨g,1,none⟩=false∧W.frozen? ⟨g,2,none⟩=false∧W.frozen? ⟨g,3,none⟩=false:=by
 unfold Four at h
 refine⟨?_,?_,?_,?_,?_,?_,?_,?_⟩
 ·exact(cell_of_row W g 0 _ 115 (0,0) h).trans rfl
 ·exact(cell_of_row W g 1 _ 115 (0,0) h).trans rfl
 ·exact(cell_of_row W g 2 _ 115 (0,0) h).trans rfl
 ·exact(cell_of_row W g 3 _ 115 (0,0) h).trans rfl
 all_goals simp[World.frozen?,h]
theorem upB_le (c:UInt8):97≤c.toNat→c.toNat≤122→((upB c).toNat:Int)=(c.toNat:Int)-97+65:=by
 intro h1 h2
 unfold upB
 rw[if_pos ⟨h1,h2⟩,UInt8.toNat_ofNat']
 omega
theorem RowK.same {w:World}{b k:Nat}{s:List UInt8}(h:RowK w b s k)(hk:k<s.length)(hu:upB s[k]=s[k]):RowK w b s (k+1):=fun j hj=>by
 obtain⟨h1,h2⟩:=h j hj
 refine⟨h1.trans ?_,h2⟩
 unfold atK
 by_cases e:j=k
 ·subst e;rw[if_neg (by omega),if_pos (by omega),hu]
 ·by_cases l:j<k
  ·rw[if_pos l,if_pos (by omega)]
  ·rw[if_neg l,if_neg (by omega)]
theorem RowK.set {w:World}{b k:Nat}{s:List UInt8}(h:RowK w b s k)(hk:k<s.length){v:Value}(hv:v=.int .u8 ((upB s[k]).toNat:Int)):RowK (w.setCell ⟨b,k,none⟩ v) b s (k+1):=fun j hj=>by
 obtain⟨h1,h2⟩:=h j hj
 by_cases e:j=k
 ·subst e
  refine⟨(World.cell?_setCell_same w _ _ h1).trans ?_,by rw[World.frozen?_setCell];exact h2⟩
  unfold atK
  rw[if_pos (by omega),hv]
 ·refine⟨(World.cell?_setCell_other w _ _ _ (by intro h;cases h;exact e rfl)).trans (h1.trans ?_),by rw[World.frozen?_setCell];exact h2⟩
  unfold atK
  by_cases l:j<k
  ·rw[if_pos l,if_pos (by omega)]
  ·rw[if_neg l,if_neg (by omega)]
set_option maxRecDepth 1000000 in
theorem upper_calls (s:ByteArray)(hs:s.size≤9223372036854775807)(b off len cap:Nat)(w:World)(hb:b<w.heap.size)(hlen:0<len)
  (hc:w.cell? ⟨b,off+2,none⟩=some (.string s)) :
  Calls Tryz.prog 111 #[.slice (some ⟨b,off,none⟩) len cap] w fun x w'=>x=.returned (.agg #[.int .u8 3,.int .i64 0,.string ⟨(s.data.toList.map upB).toArray⟩,.int .i64 0])∧Below w.heap.size w w':=by
 obtain⟨W0,hW0⟩:∃ W0,w.alloc (.cells #[.int .u8 0,.int .i64 0,.string ⟨#[]⟩,.int .i64 0] 115)=W0:=⟨_,rfl⟩
 have hc0:W0.cell? ⟨b,off+2,none⟩=some (.string s):=by rw[← hW0];exact(World.cell?_of_block (((Below.refl w.heap.size w).alloc (Nat.le_refl _) _).block b hb)).trans hc
 have hconv:=run_bytes_of_string (P:=Tryz.prog) W0 9 166 5 s Tryz.underlying9 Tryz.underlying166 Tryz.underlying5
 have hl:0<(len:Int):=by omega
 have hF0:=xm0 (show Four W0 w.heap.size by rw[← hW0];exact heap_alloc_new w _)
 have hB0:=xm0 (show Below w.heap.size w W0 by rw[← hW0];exact(Below.refl w.heap.size w).alloc (Nat.le_refl _) _)
 obtain⟨C,hC⟩:∃ C,bytesRow s (grownCap W0 s.size 0 5)=C:=⟨_,rfl⟩
 obtain⟨cap1,hcap1⟩:∃ c,grownCap W0 s.size 0 5=c:=⟨_,rfl⟩
 have hR0:=xm0 (show RowK (W0.alloc (.cells C 5 (C.size,C.size+1))) W0.heap.size s.data.toList 0 from fun j hj=>by
  have hj':j<s.data.size:=by simpa using hj
  have hrow:=bytesRow_at s (grownCap W0 s.size 0 5) j hj'
  rw[hC] at hrow
  have hlt:j<C.size:=by
   rcases Nat.lt_or_ge j C.size with h|h
   ·exact h
   ·rw[Array.getElem?_eq_none h] at hrow;cases hrow
  refine⟨(World.cell?_alloc_mark W0 C 5 _ j).trans (hrow.trans ?_),?_⟩
  ·unfold atK;simp
  ·rw[World.frozen?_alloc_mark];simp;omega)
 rw[hC,hcap1] at hconv
 have hk0:=xm0 (show W0.heap.size=w.heap.size+1 by rw[← hW0];simp)
 have hA0:=xm0 (show Below w.heap.size w (W0.alloc (.cells C 5 (C.size,C.size+1))).drew by
  have hA:=hB0.out.alloc (show w.heap.size≤W0.heap.size by have:=hk0.out;omega) (.cells C 5 (C.size,C.size+1))
  exact⟨hA.os,hA.tape,hA.output,hA.size,hA.block⟩)
 have hF1:=xm0 (show Four (W0.alloc (.cells C 5 (C.size,C.size+1))).drew w.heap.size from (Below.heap_alloc W0 _ _ (by have:=hk0.out;omega)).trans hF0.out)
 obtain⟨g,hg⟩:∃ g,W0.heap.size=g:=⟨_,rfl⟩
 rw[hg] at hconv hk0 hR0
 clear hc hC hcap1 hg
 go_enter Tryz.func111,Tryz.ntmps111
 go_wp2_with fail
 go_loopw [13] (fun i wr=>∃ k:Nat,k≤s.size∧i=.int .i64 k∧RowK wr g s.data.toList k∧Four wr w.heap.size∧Below w.heap.size w wr) (fun i _=>s.size-(intOf i).toNat)
 case atStart=>
  exact⟨0,Nat.zero_le _,rfl,hR0.out,hF1.out,hA0.out⟩
 case round =>
  obtain⟨k,hk,rfl,hrow,hfour,hbw⟩:=hrel
  have HR:=xm0 (And.intro hrow (And.intro hfour hbw))
  clear hrow hfour hbw
  by_cases hlt:k<s.size
  ·have hlt':k<s.data.toList.length:=by simpa using hlt
   obtain⟨c1,c2⟩:=HR.out.1 k hlt'
   unfold atK at c1
   rw[if_neg (by omega)] at c1
   have hset:=xm0 (fun v hv=>HR.out.1.set hlt' (v:=v) hv)
   have hsame:=xm0 (HR.out.1.same hlt')
   have hup:=xm0 (upB_le s.data.toList[k])
   have hun:=xm0 (show ¬ (97≤(s.data.toList[k]).toNat∧(s.data.toList[k]).toNat≤122)→upB s.data.toList[k]=s.data.toList[k] from fun h=>by unfold upB;rw[if_neg h])
   generalize s.data.toList[k]=c at *
   have hlt256:c.toNat<256:=UInt8.toNat_lt c
   have hki:(k:Int)<(s.size:Int):=by omega
   by_cases g1:97≤c.toNat
   ·have z1:(c.toNat:Int)≥97:=by omega
    by_cases g2:c.toNat≤122
    ·have z2:(c.toNat:Int)≤122:=by omega
     have hv:=xm0 (hset.out _ (congrArg (Value.int .u8) (hup.out g1 g2).symm))
     have hfour:=xm0 (show Four (wr.setCell ⟨g,k,none⟩ (.int .u8 ((c.toNat:Int)-97+65))) w.heap.size from (Below.heap_setCell wr _ _ _ (by have:=hk0.out;simp;omega)).trans HR.out.2.1)
     have hbel:=xm0 (HR.out.2.2.setCell (p:=⟨g,k,none⟩) (by have:=hk0.out;simp;omega) (.int .u8 ((c.toNat:Int)-97+65)))
     clear hset hsame hup hun g1 g2
     go_wp2_with fail
     go_roundw
     case rel=>exact⟨k+1,by omega,by go_num,hv.out,hfour.out,hbel.out⟩
     case measure=>simp[intOf];omega
    ·have z2:¬ (c.toNat:Int)≤122:=by omega
     have hv:=xm0 (hsame.out (hun.out fun h=>g2 h.2))
     clear hset hsame hup hun g1 g2
     go_wp2_with fail
     go_roundw
     case rel=>exact⟨k+1,by omega,by go_num,hv.out,HR.out.2.1,HR.out.2.2⟩
     case measure=>simp[intOf];omega
   ·have z1:¬ (c.toNat:Int)≥97:=by omega
    have hv:=xm0 (hsame.out (hun.out fun h=>g1 h.1))
    clear hset hsame hup hun g1
    go_wp2_with fail
    go_roundw
    case rel=>exact⟨k+1,by omega,by go_num,hv.out,HR.out.2.1,HR.out.2.2⟩
    case measure=>simp[intOf];omega
  ·obtain rfl:k=s.size:=by omega
   have hki:¬ (s.size:Int)<(s.size:Int):=by omega
   have hcells:∀ j (hj:j<(s.data.toList.map upB).length),wr.cell? ((⟨g,0,none⟩:Addr).add j)=some (.int .u8 ((s.data.toList.map upB)[j].toNat:Int)):=fun j hj=>by
    have hj':j<s.data.toList.length:=by simpa using hj
    have:=(HR.out.1 j hj').1
    unfold atK at this
    rw[if_pos (by simpa using hj')] at this
    have ea:(⟨g,0,none⟩:Addr).add j=⟨g,j,none⟩:=by unfold Addr.add;by_cases e:j=0<;>simp[e]
    rw[ea,List.getElem_map]
    exact this
   have hback:=run_convert_bytes_back (P:=Tryz.prog) wr 166 9 5 ⟨g,0,none⟩ (cap1) (s.data.toList.map upB) Tryz.underlying166 Tryz.underlying5 Tryz.underlying9 hcells
   have hlen:(s.data.toList.map upB).length=s.size:=by simp
   rw[hlen] at hback
   clear hcells hlen
   obtain⟨f1,f2,f3,f4,f5,f6,f7,f8⟩:=HR.out.2.1.facts
   have hbel:=xm0 (fun a b c d=>(((HR.out.2.2.setCell (p:=⟨w.heap.size,0,none⟩) (Nat.le_refl _) a).setCell (p:=⟨w.heap.size,1,none⟩) (Nat.le_refl _) b).setCell (p:=⟨w.heap.size,2,none⟩) (Nat.le_refl _) c).setCell (p:=⟨w.heap.size,3,none⟩) (Nat.le_refl _) d)
   obtain⟨R,hR⟩:∃ R,(s.data.toList.map upB).toArray=R:=⟨_,rfl⟩
   rw[hR] at hback
   have hR:=xm0 hR
   go_wp2_with fail
   refine bodyPost_ret (v:=.agg #[.int .u8 3,.int .i64 0,.string ⟨R⟩,.int .i64 0]) (by simp[results,Tryz.results111,go_sem,f1,f2,f3,f4]) rfl ?_
   exact⟨rfl,hbel.out _ _ _ _⟩
end Go.Proofs.YtgicljncknbgcaaGreat.Abs.Upper
