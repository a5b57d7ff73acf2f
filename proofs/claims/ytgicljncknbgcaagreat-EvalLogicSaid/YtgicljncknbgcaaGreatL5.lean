/- A region whose order is open, whose head also makes objects, stores and appends. -/
import Derived.Test.YtgicljncknbgcaaGreatL4
set_option linter.unusedVariables false
set_option linter.unusedSimpArgs false
set_option linter.unusedSectionVars false
namespace Go.Proofs.YtgicljncknbgcaaGreat.Abs
open Go Go.ChangeShapes Go.WideShapes Go.ChangeAt Go.RowKit
inductive HW where
 | alloc (idx:Nat) (cs:List AV) (t:TypeId)
 | store (idx:Nat) (ob:Ob)
 | app (ts:List Nat)
def HW.ts :Option HW→List Nat
 | some (.app ts)=>ts
 | _=>[]
def u69 (w:Option HW)(s:List Ob):List Ob:=match w with
 | some (.store idx ob)=>s.set idx ob
 | some (.app ts)=>q77 ts s
 | _=>s
def uf5 :Ob:=⟨[],0,false⟩
def wh4 (wr:Nat→Option HW)(s0:List Ob)(K:Nat)(L:Nat→Bool):Nat→List Ob
 | 0=>s0 ++ List.replicate K uf5
 | m + 1=>match wr m with
  | some (.alloc idx cs t)=>if L m=true then (wh4 wr s0 K L m).set idx ⟨cs,t,true⟩ else wh4 wr s0 K L m
  | _=>wh4 wr s0 K L m
def SR (wr:Nat→Option HW)(s0:List Ob)(K n:Nat)(L:Nat→Bool):Nat→List Ob
 | 0=>wh4 wr s0 K L n
 | m + 1=>if L m=true then u69 (wr m) (SR wr s0 K n L m) else SR wr s0 K n L m
def tsR (wr:Nat→Option HW)(L:Nat→Bool):Nat→List Nat
 | 0=>[]
 | m + 1=>if L m=true then HW.ts (wr m) ++ tsR wr L m else tsR wr L m
theorem y73 {wr:Nat→Option HW}{L:Nat→Bool}{t:Nat}:∀ {n:Nat},t ∈ tsR wr L n↔∃ j,j < n∧L j=true∧t ∈ HW.ts (wr j)
 | 0=>by simp [tsR]
 | m + 1=>by
  simp only [tsR]
  constructor
  ·intro h
   split at h
   ·rename_i hl
    rcases List.mem_append.1 h with h | h
    ·exact ⟨m,by omega,hl,h⟩
    ·obtain ⟨j,h1,h2⟩:=y73.1 h
     exact ⟨j,by omega,h2⟩
   ·obtain ⟨j,h1,h2⟩:=y73.1 h
    exact ⟨j,by omega,h2⟩
  ·rintro ⟨j,h1,h2,h3⟩
   by_cases hj:j=m
   ·subst hj
    rw [if_pos h2]
    exact List.mem_append.2 (.inl h3)
   ·have:t ∈ tsR wr L m:=y73.2 ⟨j,by omega,h2,h3⟩
    split
    ·exact List.mem_append.2 (.inr this)
    ·exact this
structure Rl (dead ts:List Nat) (X Y:List Ob):Prop where
 len:X.length=Y.length
 at_:∀ (o:Nat) (a b:Ob),X[o]?=some a→Y[o]?=some b→o ∈ dead∨(a.live=b.live∧a.t=b.t∧a.cs.map (q46 ts)=b.cs.map (q46 ts))
section
variable {dead ts:List Nat} {X Y:List Ob}
theorem Rl.refl (X:List Ob):Rl dead ts X X:=⟨rfl,fun o a b h1 h2=>by rw [h1] at h2; cases h2; exact .inr ⟨rfl,rfl,rfl⟩⟩
theorem Rl.set (h:Rl dead ts X Y)(o:Nat)(c:Ob):Rl dead ts (X.set o c) (Y.set o c):=by
 refine ⟨by simp [h.len],fun i a b h1 h2=>?_⟩
 rw [List.getElem?_set] at h1 h2
 by_cases hi:o=i
 ·rw [if_pos hi] at h1 h2
  split at h1
  ·split at h2
   ·cases h1; cases h2; exact .inr ⟨rfl,rfl,rfl⟩
   ·cases h2
  ·cases h1
 ·rw [if_neg hi] at h1 h2
  exact h.at_ i a b h1 h2
theorem Rl.setL (h:Rl dead ts X Y){o:Nat}(c:Ob)(ho:o ∈ dead):Rl dead ts (X.set o c) Y:=by
 refine ⟨by simp [h.len],fun i a b h1 h2=>?_⟩
 rw [List.getElem?_set] at h1
 by_cases hi:o=i
 ·subst hi; exact .inl ho
 ·rw [if_neg hi] at h1
  exact h.at_ i a b h1 h2
theorem Rl.setR (h:Rl dead ts X Y){o:Nat}(c:Ob)(ho:o ∈ dead):Rl dead ts X (Y.set o c):=by
 refine ⟨by simp [h.len],fun i a b h1 h2=>?_⟩
 rw [List.getElem?_set] at h2
 by_cases hi:o=i
 ·subst hi; exact .inl ho
 ·rw [if_neg hi] at h2
  exact h.at_ i a b h1 h2
theorem zl4 (ts:List Nat)(x:AV):q46 ts x=x∨(q46 ts x=x.plain∧∃ t,x.mark=some t∧t ∈ ts):=by
 unfold q46
 split
 ·rename_i t ht
  split
  ·rename_i hc; exact .inr ⟨rfl,t,ht,by simpa using hc⟩
  ·exact .inl rfl
 ·exact .inl rfl
theorem ju6 (ts:List Nat)(x:AV):q46 ts x.plain=x.plain:=by
 unfold q46
 rw [x.mark_plain]
theorem zq9 (ts:List Nat){x:AV}{t:Nat}(h:x.mark=some t):q46 ts x=if t ∈ ts then x.plain else x:=by
 unfold q46
 rw [h]
 simp only [List.contains_eq_mem,decide_eq_true_eq]
theorem qm9 {t':List Nat}(h:∀ t ∈ t',t ∈ ts)(x:AV):q46 ts (q46 t' x)=q46 ts x:=by
 rcases zl4 t' x with e | ⟨e,t,h1,h2⟩
 ·rw [e]
 ·rw [e,ju6,zq9 ts h1,if_pos (h t h2)]
theorem vw2 (a b:List Nat)(x:AV):q46 a (q46 b x)=q46 b (q46 a x):=by
 cases hx:x.mark with
 | none=>simp [q46,hx]
 | some t =>
  rw [zq9 b hx,zq9 a hx]
  split <;> split <;> simp [ju6,zq9 _ hx, *]
theorem kr2 {t':List Nat}{xs ys:List AV}(h:xs.map (q46 ts)=ys.map (q46 ts)):(xs.map (q46 t')).map (q46 ts)=(ys.map (q46 t')).map (q46 ts):=by
 have e:∀ zs:List AV,(zs.map (q46 t')).map (q46 ts)=(zs.map (q46 ts)).map (q46 t'):=fun zs=>by
  simp only [List.map_map]
  exact List.map_congr_left fun z _=>vw2 ts t' z
 rw [e,e,h]
theorem Rl.clear (h:Rl dead ts X Y)(t':List Nat):Rl dead ts (q77 t' X) (q77 t' Y):=by
 refine ⟨by simp [q77,h.len],fun i a b h1 h2=>?_⟩
 obtain ⟨a',h3,rfl⟩:=qh4 h1
 obtain ⟨b',h4,rfl⟩:=qh4 h2
 exact (h.at_ i a' b' h3 h4).imp id fun ⟨k1,k2,k3⟩=>⟨k1,k2,kr2 k3⟩
theorem Rl.clearL (h:Rl dead ts X Y){t':List Nat}(ht:∀ t ∈ t',t ∈ ts):Rl dead ts (q77 t' X) Y:=by
 refine ⟨by simp [q77,h.len],fun i a b h1 h2=>?_⟩
 obtain ⟨a',h3,rfl⟩:=qh4 h1
 refine (h.at_ i a' b h3 h2).imp id fun ⟨k1,k2,k3⟩=>⟨k1,k2,?_⟩
 simp only
 rw [← k3,List.map_map]
 exact List.map_congr_left fun z _=>qm9 ht z
theorem Rl.clearR (h:Rl dead ts X Y){t':List Nat}(ht:∀ t ∈ t',t ∈ ts):Rl dead ts X (q77 t' Y):=by
 refine ⟨by simp [q77,h.len],fun i a b h1 h2=>?_⟩
 obtain ⟨b',h3,rfl⟩:=qh4 h2
 refine (h.at_ i a b' h1 h3).imp id fun ⟨k1,k2,k3⟩=>⟨k1,k2,?_⟩
 simp only
 rw [k3,List.map_map]
 exact (List.map_congr_left fun z _=>qm9 ht z).symm
end
def hid (dead ts:List Nat):Option HW→Prop
 | some (.alloc idx _ _)=>idx ∈ dead
 | some (.store idx _)=>idx ∈ dead
 | some (.app t')=>∀ t ∈ t',t ∈ ts
 | none=>True
theorem kl9 {wr:Nat→Option HW}{s0:List Ob}{K:Nat}{L L':Nat→Bool}{dead ts:List Nat}:∀ m,(∀ j,j < m→L j≠L' j→hid dead ts (wr j))→Rl dead ts (wh4 wr s0 K L m) (wh4 wr s0 K L' m)
 | 0,_=>.refl _
 | m + 1,h=>by
  have ih:=kl9 (s0:=s0) (K:=K) m fun j hj=>h j (by omega)
  have hm:=h m (by omega)
  simp only [wh4]
  cases hw:wr m with
  | none=>exact ih
  | some w =>
   cases w with
   | alloc idx cs t =>
    simp only
    by_cases e:L m=L' m
    ·rw [e]; split
     ·exact ih.set _ _
     ·exact ih
    ·have hd:=hm e
     rw [hw] at hd
     simp only [hid] at hd
     split <;> split
     ·exact ih.set _ _
     ·exact ih.setL _ hd
     ·exact ih.setR _ hd
     ·exact ih
   | store=>exact ih
   | app=>exact ih
theorem SR_rel {wr:Nat→Option HW}{s0:List Ob}{K n:Nat}{L L':Nat→Bool}{dead ts:List Nat}(h:∀ j,j < n→L j≠L' j→hid dead ts (wr j)):∀ m,m≤n→Rl dead ts (SR wr s0 K n L m) (SR wr s0 K n L' m)
 | 0,_=>kl9 n h
 | m + 1,hm=>by
  have ih:=SR_rel (s0:=s0) (K:=K) h m (by omega)
  have hd:=h m (by omega)
  simp only [SR]
  by_cases e:L m=L' m
  ·rw [e]
   split
   ·cases hw:wr m with
    | none=>exact ih
    | some w =>
     cases w with
     | alloc=>exact ih
     | store idx ob=>exact ih.set _ _
     | app t'=>exact ih.clear _
   ·exact ih
  ·have hd:=hd e
   cases hw:wr m with
   | none=>simpa [u69] using ih
   | some w =>
    rw [hw] at hd
    cases w with
    | alloc=>simpa [u69] using ih
    | store idx ob =>
     simp only [hid] at hd
     simp only [u69]
     split <;> split
     ·exact ih.set _ _
     ·exact ih.setL _ hd
     ·exact ih.setR _ hd
     ·exact ih
    | app t' =>
     simp only [hid] at hd
     simp only [u69]
     split <;> split
     ·exact ih.clear _
     ·exact ih.clearL hd
     ·exact ih.clearR hd
     ·exact ih
def kk2 (dead ts:List Nat):Nat→List Ob→List Ob
 | _,[]=>[]
 | i,o :: s=>(if dead.contains i then { o with live:=false } else { o with cs:=o.cs.map (q46 ts) }) :: kk2 dead ts (i + 1) s
theorem vo5 {dead ts:List Nat}:∀ (i:Nat) (s:List Ob),(kk2 dead ts i s).length=s.length
 | _,[]=>rfl
 | i,o :: s=>by simp [kk2,vo5 (i + 1) s]
theorem kl1 {dead ts:List Nat}:∀ (i:Nat) (s:List Ob) (k:Nat),(kk2 dead ts i s)[k]?=(s[k]?).map fun o=>if dead.contains (i + k) then { o with live:=false } else { o with cs:=o.cs.map (q46 ts) }
 | _,[],k=>by simp [kk2]
 | i,o :: s,0=>by simp [kk2]
 | i,o :: s,k + 1=>by
  simp only [kk2,List.getElem?_cons_succ]
  rw [kl1 (i + 1) s k,show i + 1 + k=i + (k + 1) by omega]
theorem Rl.msk {dead ts:List Nat}{X Y:List Ob}(h:Rl dead ts X Y):WkS X (kk2 dead ts 0 Y):=by
 refine ⟨by rw [vo5,h.len],fun i a b h1 h2=>?_⟩
 rw [kl1,Nat.zero_add] at h2
 cases hy:Y[i]? with
 | none=>rw [hy] at h2; cases h2
 | some y =>
  rw [hy] at h2
  simp only [Option.map_some,Option.some.injEq] at h2
  intro hl
  split at h2
  ·subst h2; cases hl
  ·rename_i hc
   subst h2
   rcases h.at_ i a y h1 hy with hd | ⟨k1,k2,k3⟩
   ·exact absurd (by simpa using hd) hc
   ·refine ⟨k2.symm,k1.trans hl,?_,fun k u u' hu hu'=>?_⟩
    ·have:=congrArg List.length k3
     simpa using this.symm
    ·have e:(a.cs.map (q46 ts))[k]?=some (q46 ts u):=by rw [List.getElem?_map,hu]; rfl
     rw [k3] at e
     simp only at hu'
     rw [hu'] at e
     cases e
     exact zg7 ts u
theorem ut1 {wr:Nat→Option HW}{s0:List Ob}{K n:Nat}{L:Nat→Bool}:∀ m,(SR wr s0 K n L m).length=s0.length + K:=by
 have hb:∀ m,(wh4 wr s0 K L m).length=s0.length + K:=by
  intro m
  induction m with
  | zero=>simp [wh4]
  | succ m ih=>simp only [wh4]; split <;> (try split) <;> simp [ih]
 intro m
 induction m with
 | zero=>exact hb n
 | succ m ih =>
  simp only [SR]
  split
  ·unfold u69; split <;> simp [q77,ih]
  ·exact ih
def xy9 (L:Nat→Bool)(i:Nat):Nat→Bool:=fun j=>if j=i then true else L j
theorem va5 {wr:Nat→Option HW}{s0:List Ob}{K n i:Nat}{L:Nat→Bool}(hi:i < n)(hL:L i=false)(hna:∀ idx cs t,wr i≠some (.alloc idx cs t))(hch:wr i≠none→∀ j,i < j→L j=true→∀ s,u69 (wr j) s=s):
  SR wr s0 K n (xy9 L i) n=u69 (wr i) (SR wr s0 K n L n):=by
 have hb:∀ m,wh4 wr s0 K (xy9 L i) m=wh4 wr s0 K L m:=by
  intro m
  induction m with
  | zero=>rfl
  | succ m ih =>
   simp only [wh4,ih]
   by_cases hm:m=i
   ·subst hm
    cases hw:wr m with
    | none=>rfl
    | some w=>cases w <;> first | exact absurd hw (hna _ _ _) | rfl
   ·simp only [xy9,if_neg hm]
 have key:∀ m,SR wr s0 K n (xy9 L i) m=if i < m then u69 (wr i) (SR wr s0 K n L m) else SR wr s0 K n L m:=by
  intro m
  induction m with
  | zero=>simp [SR,hb]
  | succ m ih =>
   simp only [SR]
   by_cases hm:m=i
   ·subst hm
    rw [ih]
    simp [xy9,hL]
   ·rw [ih]
    simp only [xy9,if_neg hm]
    by_cases him:i < m
    ·rw [if_pos him,if_pos (show i < m + 1 by omega)]
     by_cases hw:wr i=none
     ·rw [hw]; rfl
     ·split
      ·rename_i hl
       rw [hch hw m him hl,hch hw m him hl]
      ·rfl
    ·rw [if_neg him,if_neg (show ¬ i < m + 1 by omega)]
 rw [key,if_pos hi]
theorem ku3 {ts:List Nat}{cs:List AV}(h:∀ a ∈ cs,a.mark=none):cs.map (q46 ts)=cs:=by
 induction cs with
 | nil=>rfl
 | cons a cs ih=>rw [List.map_cons,cm_none (h a (by simp)),ih fun b hb=>h b (by simp [hb])]
theorem kl4 {wr:Nat→Option HW}{s0:List Ob}{K n i idx:Nat}{cs:List AV}{t:TypeId}{L:Nat→Bool}(hi:i < n)(hL:L i=false)(hw:wr i=some (.alloc idx cs t))(hu:∀ j idx' cs' t',j≠i→wr j=some (.alloc idx' cs' t')→idx'≠idx)
  (hs:∀ j idx' ob,L j=true→wr j=some (.store idx' ob)→idx'≠idx) (hm:∀ a ∈ cs,a.mark=none) :
  SR wr s0 K n (xy9 L i) n=(SR wr s0 K n L n).set idx ⟨cs,t,true⟩:=by
 have hb:∀ m,wh4 wr s0 K (xy9 L i) m=if i < m then (wh4 wr s0 K L m).set idx ⟨cs,t,true⟩ else wh4 wr s0 K L m:=by
  intro m
  induction m with
  | zero=>rfl
  | succ m ih =>
   simp only [wh4,ih]
   by_cases hmi:m=i
   ·subst hmi
    rw [hw]
    simp [xy9,hL]
   ·simp only [xy9,if_neg hmi]
    by_cases him:i < m
    ·rw [if_pos him,if_pos (show i < m + 1 by omega)]
     cases hwm:wr m with
     | none=>rfl
     | some w =>
      cases w with
      | alloc idx' cs' t' =>
       simp only
       split
       ·exact List.set_comm _ _ (Ne.symm (hu m idx' cs' t' hmi hwm))
       ·rfl
      | _=>rfl
    ·rw [if_neg him,if_neg (show ¬ i < m + 1 by omega)]
 have key:∀ m,SR wr s0 K n (xy9 L i) m=(SR wr s0 K n L m).set idx ⟨cs,t,true⟩:=by
  intro m
  induction m with
  | zero=>simp only [SR]; rw [hb,if_pos hi]
  | succ m ih =>
   simp only [SR]
   by_cases hmi:m=i
   ·subst hmi
    rw [ih]
    simp [xy9,hL,hw,u69]
   ·simp only [xy9,if_neg hmi]
    split
    ·rename_i hl
     rw [ih]
     cases hwm:wr m with
     | none=>rfl
     | some w =>
      cases w with
      | alloc=>rfl
      | store idx' ob =>
       simp only [u69]
       exact List.set_comm _ _ (Ne.symm (hs m idx' ob hl hwm))
      | app ts =>
       simp only [u69,q77,List.map_set]
       rw [ku3 hm]
    ·exact ih
 exact key n
theorem km4 {wr:Nat→Option HW}{s0:List Ob}{K n:Nat}{L L':Nat→Bool}(h:∀ j,j < n→L j=L' j):∀ m,m≤n→SR wr s0 K n L m=SR wr s0 K n L' m:=by
 have hb:∀ m,m≤n→wh4 wr s0 K L m=wh4 wr s0 K L' m:=by
  intro m
  induction m with
  | zero=>intro _; rfl
  | succ m ih=>intro hm; simp only [wh4,ih (by omega),h m (by omega)]
 intro m
 induction m with
 | zero=>intro _; exact hb n (Nat.le_refl _)
 | succ m ih=>intro hm; simp only [SR,ih (by omega),h m (by omega)]
structure xl3 (nb:Nat) (G G':Gh) (w w':World):Prop where
 size:w.heap.size≤w'.heap.size
 heap:∀ b,b < w.heap.size→w'.heap[b]?=w.heap[b]?
 own:∀ b,b < w.heap.size→G'.own b=G.own b∧G'.phi b=G.phi b∧G'.tg b=G.tg b
 obj:∀ b,b < w.heap.size→G'.obj b→G.obj b
 mu:∀ i,i < nb→G'.mu i=G.mu i
 n:nb≤G'.n
section
variable {nb:Nat} {G G':Gh} {w w':World}
theorem j81.alive (h:xl3 nb G G' w w'){b o len:Nat}(hs:j81 G w b o len):j81 G' w' b o len:=by
 obtain ⟨h1,h2,h3⟩:=hs
 obtain ⟨e1,e2,_⟩:=h.own b h1
 refine ⟨Nat.lt_of_lt_of_le h1 h.size,fun hb=>h2 (h.obj b h1 hb),fun ho=>?_⟩
 rw [e1] at ho
 rw [e2]
 exact h3 ho
theorem ja5.alive (h:xl3 nb G G' w w'){b o:Nat}{vs:List Value}(hb:b < w.heap.size)(hc:ja5 w b o vs):ja5 w' b o vs:=fun i v hi=>by
 rw [World.cell?_of_block (w:=w) (h.heap b hb)]; exact hc i v hi
mutual
theorem VR0.alive (h:xl3 nb G G' w w'):∀ (a:AV) (v:Value),a.refs nb=true→VR0 G w a v→VR0 G' w' a v
 | .undef,_,_,_=>by simp only [VR0]
 | .int ..,_,_,hv=>by simp only [VR0] at hv ⊢; exact hv
 | .bool ..,_,_,hv=>by simp only [VR0] at hv ⊢; exact hv
 | .str ..,_,_,hv=>by simp only [VR0] at hv ⊢; exact hv
 | .nilp,_,_,hv=>by simp only [VR0] at hv ⊢; exact hv
 | .ref i o,_,hb,hv=>by
  simp only [VR0,AV.refs,decide_eq_true_eq] at hv hb ⊢
  rw [h.mu i hb]
  exact ⟨hv.1,Nat.lt_of_lt_of_le hb h.n⟩
 | .arr i o,_,hb,hv=>by
  simp only [VR0,AV.refs,decide_eq_true_eq] at hv hb ⊢
  rw [h.mu i hb]
  exact ⟨hv.1,Nat.lt_of_lt_of_le hb h.n⟩
 | .eptr cs o,_,hb,hv=>by
  simp only [VR0,AV.refs] at hv hb ⊢
  obtain ⟨b,ob,vs,h1,h2,h3,h4⟩:=hv
  exact ⟨b,ob,vs,h1,h2.alive h,h3.alive h h2.1,q56.alive h cs vs hb h4⟩
 | .list cs n g,_,hb,hv=>by
  simp only [VR0,AV.refs] at hv hb ⊢
  obtain ⟨A,cap,h1,h2,h3,h4⟩:=hv
  refine ⟨A,cap,h1,h2,h3,h4.imp id ?_⟩
  rintro ⟨b,o,vs,h5,h6,h7,h8⟩
  exact ⟨b,o,vs,h5,h6.alive h,h7.alive h h6.1,q56.alive h cs vs hb h8⟩
 | .nilf,_,_,hv=>by simp only [VR0] at hv ⊢; exact hv
 | .func fn cs,_,hb,hv=>by
  simp only [VR0,AV.refs] at hv hb ⊢
  obtain ⟨vs,h1,h2⟩:=hv
  exact ⟨vs,h1,q56.alive h cs vs hb h2⟩
 | .agg cs,_,hb,hv=>by
  simp only [VR0,AV.refs] at hv hb ⊢
  obtain ⟨vs,h1,h2⟩:=hv
  exact ⟨vs,h1,q56.alive h cs vs hb h2⟩
 | .tuple cs,_,hb,hv=>by
  simp only [VR0,AV.refs] at hv hb ⊢
  obtain ⟨vs,h1,h2⟩:=hv
  exact ⟨vs,h1,q56.alive h cs vs hb h2⟩
theorem q56.alive (h:xl3 nb G G' w w'):∀ (as:List AV) (vs:List Value),qe9 nb as=true→q56 G w as vs→q56 G' w' as vs
 | [],_,_,hv=>by simp only [q56] at hv ⊢; exact hv
 | a :: as,_,hb,hv=>by
  simp only [q56,qe9,Bool.and_eq_true] at hv hb ⊢
  obtain ⟨v,vs',h1,h2,h3⟩:=hv
  exact ⟨v,vs',h1,VR0.alive h a v hb.1 h2,q56.alive h as vs' hb.2 h3⟩
end
theorem VR.alive (h:xl3 nb G G' w w'){M:Nat→Prop}{a:AV}{v:Value}(hr:a.refs nb=true)(hv:VR M G w a v):VR M G' w' a v:=by
 refine ⟨VR0.alive h a v hr hv.1,?_⟩
 have ho:=hv.2
 unfold qe8 at *
 split
 ·rcases ho with ho | ⟨g,cap,cur,h1,h2,h3,h4,h5,h6,h7,h8⟩
  ·exact .inl ho
  ·have hg:g < w.heap.size:=by
    rcases Nat.lt_or_ge g w.heap.size with hh | hh
    ·exact hh
    ·rw [Array.getElem?_eq_none hh] at h7; cases h7
   obtain ⟨k1,k2,k3⟩:=h.own g hg
   exact .inr ⟨g,cap,cur,h1,h2,k1.trans h3,fun hb=>h4 (h.obj g hg hb),k2.trans h5,k3.trans h6,(h.heap g hg).trans h7,h8⟩
 ·trivial
end
def Gh.born (G:Gh)(idx b:Nat):Gh :=
 { G with live:=fun i=>if i=idx then true else G.live i,mu:=fun i=>if i=idx then b else G.mu i,own:=fun x=>if x=b then false else G.own x }
theorem xl3.born {nb:Nat}{G:Gh}{w:World}{idx:Nat}{ob:Obj}(hn:nb≤G.n)(hi:nb≤idx):xl3 nb G (G.born idx w.heap.size) w (w.alloc ob):=by
 have hg:=wp3 w ob
 refine ⟨hg.size,fun b hb=>hg.block b hb (by simp),fun b hb=>?_,fun b hb=>?_,fun i hlt=>?_,hn⟩
 ·simp only [Gh.born]; rw [if_neg (by omega)]; exact ⟨rfl,trivial,trivial⟩
 ·rintro ⟨i,h1,h2,h3⟩
  simp only [Gh.born] at h1 h2 h3
  by_cases hii:i=idx
  ·rw [if_pos hii] at h3; omega
  ·rw [if_neg hii] at h2 h3; exact ⟨i,h1,h2,h3⟩
 ·simp only [Gh.born]; rw [if_neg (by omega)]
def jk7 (nb:Nat)(s:List Ob):Prop:=∀ (i:Nat) (o:Ob),s[i]?=some o→o.live=true→qe9 nb o.cs=true
theorem Sim.born {M:Nat→Prop}{G:Gh}{s:List Ob}{w:World}{nb idx:Nat}{cs:List AV}{vs:List Value}{t:TypeId}(h:Sim M G s w)(hn:nb≤idx)(hi:idx < s.length)(hb:jk7 nb s)(hl:vs.length=cs.length)
  (hv:∀ G' w' (k:Nat) (a:AV) (v:Value),cs[k]?=some a→vs[k]?=some v→VR M G' w' a v):Sim M (G.born idx w.heap.size) (s.set idx ⟨cs,t,true⟩) (w.alloc (.cells vs.toArray t)):=by
 have hG:idx < G.n:=by rw [h.n]; exact hi
 have hA:=xl3.born (nb:=nb) (G:=G) (w:=w) (idx:=idx) (ob:=.cells vs.toArray t) (by omega) hn
 refine ⟨by simp [Gh.born,h.n],?_,?_,?_,fun {i} hi hl'=>?_,?_⟩
 ·intro i j hi hj h1 h2 heq
  simp only [Gh.born] at hi hj h1 h2 heq
  split at heq <;> split at heq
  ·omega
  ·rename_i h3 h4
   rw [if_neg h4] at h2
   have:=h.lt hj h2
   omega
  ·rename_i h3 h4
   rw [if_neg h3] at h1
   have:=h.lt hi h1
   omega
  ·rename_i h3 h4
   rw [if_neg h3] at h1
   rw [if_neg h4] at h2
   exact h.inj i j hi hj h1 h2 heq
 ·intro i hi hl'
  simp only [Gh.born] at hi hl' ⊢
  split
  ·simp
  ·rename_i h3
   rw [if_neg h3] at hl'
   have:=h.lt hi hl'
   rw [if_neg (by omega)]
   exact h.own i hi hl'
 ·intro i o hi hol
  rw [List.getElem?_set] at hi
  simp only [Gh.born]
  split at hi
  ·rename_i h3; rw [if_pos h3.symm]
  ·rename_i h3; rw [if_neg (fun e=>h3 e.symm)]; exact h.live i o hi hol
 ·simp only [Gh.born] at hi hl' ⊢
  have hsz:(w.alloc (Obj.cells vs.toArray t)).heap.size=w.heap.size + 1:=by simp
  rw [hsz]
  split
  ·omega
  ·rename_i h3
   rw [if_neg h3] at hl'
   have:=h.lt hi hl'
   omega
 ·intro i o hi hol
  rw [List.getElem?_set] at hi
  split at hi
  ·rename_i h3
   have hi:(⟨cs,t,true⟩:Ob)=o:=by simpa using hi
   subst hi
   refine ⟨vs,?_,hl,fun k a v hk hv'=>hv _ _ k a v hk hv'⟩
   simp only [Gh.born]
   rw [if_pos h3.symm]
   exact heap_alloc_new w _
  ·rename_i h3
   obtain ⟨us,h4,h5,h6⟩:=h.at_ i o hi hol
   have hi':i < G.n:=by rw [h.n]; exact q75 hi
   refine ⟨us,?_,h5,fun k a v hk hv=>(h6 k a v hk hv).alive hA (j38 (hb i o hi hol) hk)⟩
   simp only [Gh.born]
   rw [if_neg (fun e=>h3 e.symm),hA.heap _ (h.lt hi' (h.live i o hi hol))]
   exact h4
theorem Ext.born {M:Nat→Prop}{G0 G:Gh}{w0 w:World}{nb idx:Nat}{ob:Obj}(h:Ext M G0 w0 G w)(h0:G0.n≤nb)(hi:nb≤idx):Ext M G0 w0 (G.born idx w.heap.size) (w.alloc ob):=by
 have hg:=wp3 w ob
 refine ⟨Nat.le_trans h.size hg.size,hg.os.trans h.os,hg.tape.trans h.tape,hg.output.trans h.output,h.n,?_,?_,?_,?_,?_,?_,?_,?_⟩
 ·intro i hlt hl
  simp only [Gh.born] at hl
  rw [if_neg (by omega)] at hl
  exact h.live i hlt hl
 ·intro i hlt
  simp only [Gh.born]
  rw [if_neg (by omega)]
  exact h.mu i hlt
 ·intro i h1 h2
  simp only [Gh.born] at h2 ⊢
  split
  ·exact h.size
  ·exact h.newobj i h1 h2
 ·intro b hb
  simp only [Gh.born]
  rw [if_neg (by have:=h.size; omega)]
  exact h.own b hb
 ·intro b hb ho
  exact h.phi b hb ho
 ·intro b hb hn ho
  rw [hg.block b (Nat.lt_of_lt_of_le hb h.size) (by simp)]
  exact h.cell b hb hn ho
 ·intro b hb hn ho o hlt
  rw [World.cell?_of_block (w:=w) (hg.block b (Nat.lt_of_lt_of_le hb h.size) (by simp))]
  exact h.row b hb hn ho o hlt
 ·intro b hb hn ho hm
  obtain ⟨k1,k2,k3⟩:=h.keep b hb hn ho hm
  exact ⟨(hg.block b (Nat.lt_of_lt_of_le hb h.size) (by simp)).trans k1,k2,k3⟩
def Gh.room (G:Gh)(K b:Nat):Gh:={ G with n:=G.n + K,live:=fun i=>if i < G.n then G.live i else false,mu:=fun i=>if i < G.n then G.mu i else b }
theorem Ext.room {M:Nat→Prop}{G0 G:Gh}{w0 w:World}(h:Ext M G0 w0 G w)(K:Nat):Ext M G0 w0 (G.room K w.heap.size) w:=by
 refine { h with n:=Nat.le_trans h.n (by simp [Gh.room]),live:=?_,mu:=?_,newobj:=?_,own:=h.own,phi:=h.phi,cell:=h.cell,row:=h.row,keep:=h.keep }
 ·intro i hlt hl
  simp only [Gh.room] at hl
  rw [if_pos (Nat.lt_of_lt_of_le hlt h.n)] at hl
  exact h.live i hlt hl
 ·intro i hlt
  simp only [Gh.room]
  rw [if_pos (Nat.lt_of_lt_of_le hlt h.n)]
  exact h.mu i hlt
 ·intro i h1 h2
  simp only [Gh.room] at h2 ⊢
  split
  ·rename_i h3; exact h.newobj i h1 h3
  ·exact h.size
theorem xl3.room {G:Gh}{w:World}(K b:Nat):xl3 G.n G (G.room K b) w w:=by
 refine ⟨Nat.le_refl _,fun _ _=>rfl,fun _ _=>⟨rfl,rfl,rfl⟩,fun b hb=>?_,fun i hi=>?_,by simp [Gh.room]⟩
 ·rintro ⟨i,h1,h2,h3⟩
  simp only [Gh.room] at h1 h2 h3
  split at h2
  ·rename_i h4; rw [if_pos h4] at h3; exact ⟨i,h4,h2,h3⟩
  ·cases h2
 ·simp only [Gh.room]; rw [if_pos hi]
theorem Sim.room {M:Nat→Prop}{G:Gh}{s:List Ob}{w:World}(h:Sim M G s w)(K b:Nat):Sim M (G.room K b) (s ++ List.replicate K uf5) w:=by
 have hA:=xl3.room (G:=G) (w:=w) K b
 have hlv:∀ i,(G.room K b).live i=true→i < G.n∧G.live i=true∧(G.room K b).mu i=G.mu i:=by
  intro i hl
  simp only [Gh.room] at hl ⊢
  split at hl
  ·rename_i h4; exact ⟨h4,hl,if_pos h4⟩
  ·cases hl
 have hget:∀ (i:Nat) (o:Ob),(s ++ List.replicate K uf5)[i]?=some o→o.live=true→s[i]?=some o:=by
  intro i o hi hl
  rw [List.getElem?_append] at hi
  split at hi
  ·exact hi
  ·rw [List.getElem?_replicate] at hi
   split at hi
   ·cases hi; cases hl
   ·cases hi
 refine ⟨by simp [Gh.room,h.n],?_,?_,?_,fun {i} hi hl=>?_,?_⟩
 ·intro i j hi hj h1 h2 heq
  obtain ⟨a1,a2,a3⟩:=hlv i h1
  obtain ⟨b1,b2,b3⟩:=hlv j h2
  rw [a3,b3] at heq
  exact h.inj i j a1 b1 a2 b2 heq
 ·intro i hi hl
  obtain ⟨a1,a2,a3⟩:=hlv i hl
  rw [a3]
  exact h.own i a1 a2
 ·intro i o hi hol
  have hi':=hget i o hi hol
  have:=q75 hi'
  simp only [Gh.room]
  rw [if_pos (by rw [h.n]; exact this)]
  exact h.live i o hi' hol
 ·obtain ⟨a1,a2,a3⟩:=hlv i hl
  rw [a3]
  exact h.lt a1 a2
 ·intro i o hi hol
  have hi':=hget i o hi hol
  have hlt:i < G.n:=by rw [h.n]; exact q75 hi'
  obtain ⟨vs,h1,h2,h3⟩:=h.at_ i o hi' hol
  refine ⟨vs,?_,h2,fun k a v hk hv=>(h3 k a v hk hv).alive hA (by rw [h.n]; exact j38 (h.refs hi' hol) hk)⟩
  simp only [Gh.room]
  rw [if_pos hlt]
  exact h1
def yq6 (P:Program)(A:Array Oper)(o:Oper)(fr:List AV)(sv:List Ob)(v:AV):Prop :=
 ∀ M G w a s,v00 P M G w→Sim M G s w→Sim M G sv w→FR M G w (qc1 (qb5 A o) fr) a→∀ (K:Act→World→Prop) (Q:Exit→Act→World→Prop),
  (∀ cv G' w',Ext (fun _=>False) G w G' w'→Sim M G' s w'→VR M G' w' v cv→K (a.put o.dst cv) w')→o.wp P a w K Q
theorem u13 {P:Program}{A:Array Oper}{o:Oper}{fr:List AV}{sv:List Ob}{v:AV}(h:qo1 P fr sv o=some v):yq6 P A o fr sv v:=by
 have h':qo1 P (qc1 (qb5 A o) fr) sv o=some v:=by rw [k02 fun x hx=>qj5 hx]; exact h
 intro M G w a s hF hs hS hf K Q hK
 rcases kn6 h' with hst | hst
 ·obtain ⟨cv,h1,h2⟩:=hst M G w a hS hf
  unfold Oper.wp
  rw [h1,Oper.upon_value]
  exact hK cv G w (Ext.refl _ _ _) hs h2
 ·obtain ⟨cv,ob,h1,h2⟩:=hst M G w a hS hf
  have hg:=wp3 w ob
  have hm:=ko5.addForeign G w
  unfold Oper.wp
  rw [h1,Oper.upon_value]
  exact hK cv _ _ (Ext.grow hg hm) (hs.grow hg hm rfl) h2
theorem yq6.weaken {P:Program}{A:Array Oper}{o:Oper}{fr:List AV}{sv:List Ob}{v v':AV}(h:yq6 P A o fr sv v)(k:WkM v v'):yq6 P A o fr sv v' :=
 fun M G w a s hF hs hS hf K Q hK=>h M G w a s hF hs hS hf K Q fun cv G' w' h1 h2 h3=>hK cv G' w' h1 h2 (k M G' w' cv h3)
theorem kg4 {P:Program}{A:Array Oper}{o:Oper}{fr:List AV}{sv:List Ob}{r:AV}{c:Call}{x:Operand}{f:FuncId}{fcs:List AV}(ho:o.op=.call c)(hc:c.callee=.value x)(hx:q45 fr x=.func (.func f) fcs)
  (hbody:z04 P f=true) (hok:Ok P f ((c.args.toList.map fun y=>(q45 fr y).soft) ++ fcs) [] r []) (ha:qo3 ((c.args.toList.map fun y=>(q45 fr y).soft) ++ fcs)=true) (hr:r.free=true) (hm:r.mark=none):yq6 P A o fr sv r:=by
 intro M G w a s hF hs hS hf K Q hK
 have hxo:∀ y ∈ o.op.operands,q45 (qc1 (qb5 A o) fr) y=q45 fr y:=fun y hy=>qj5 hy
 have hx':q45 (qc1 (qb5 A o) fr) x=.func (.func f) fcs:=by
  rw [hxo x (by simp [ho,Op.operands,Call.operands,hc])]
  exact hx
 have hargs':(c.args.toList.map fun y=>(q45 (qc1 (qb5 A o) fr) y).soft)=c.args.toList.map fun y=>(q45 fr y).soft :=
  List.map_congr_left fun y hy=>by rw [hxo y (by simp [ho,Op.operands,Call.operands]; right; simpa using hy)]
 refine kn8 (a:=a) ho hc hx' hbody (by rw [hargs']; exact hok) (by rw [hargs']; exact ha) hr hs hF.2 hf K Q ?_
 intro v G' w' h1 h2 h3
 exact hK v G' w' h3 h2 ⟨h1,qe8.of_plain hm⟩
theorem ki7 {P:Program}{A:Array Oper}{o:Oper}{fr:List AV}{sv:List Ob}{r:AV}{c:Call}{x:Operand}{f:FuncId}{fcs args:List AV}(ho:o.op=.call c)(hc:c.callee=.value x)(hx:q45 fr x=.func (.func f) fcs)
  (hbody:z04 P f=true) (hok:Ok P f args [] r []) (hsn:∀ M G w cv,Sim M G sv w→q56 G w ((c.args.toList.map fun y=>(q45 fr y).soft) ++ fcs) cv→q56 G.bare w args cv) (hr:r.flat=true) (hm:r.mark=none):yq6 P A o fr sv r:=by
 intro M G w a s hF hs hS hf K Q hK
 have hxo:∀ y ∈ o.op.operands,q45 (qc1 (qb5 A o) fr) y=q45 fr y:=fun y hy=>qj5 hy
 have hx':q45 (qc1 (qb5 A o) fr) x=.func (.func f) fcs:=by
  rw [hxo x (by simp [ho,Op.operands,Call.operands,hc])]
  exact hx
 have hargs':(c.args.toList.map fun y=>(q45 (qc1 (qb5 A o) fr) y).soft)=c.args.toList.map fun y=>(q45 fr y).soft :=
  List.map_congr_left fun y hy=>by rw [hxo y (by simp [ho,Op.operands,Call.operands]; right; simpa using hy)]
 refine kp5 (a:=a) ho hc hx' hbody hok (fun cv hcv=>hsn M G w cv hS (by rw [hargs'] at hcv; exact hcv)) hr hs hF.2 hf K Q ?_
 intro v G' w' h1 h2 h3
 exact hK v G' w' h2 (h3 s hs) ⟨h1,qe8.of_plain hm⟩
def HStore (P:Program)(A:Array Oper)(o:Oper)(fr:List AV)(sv:List Ob)(idx:Nat)(ob:Ob):Prop :=
 ∀ M G w a,Sim M G sv w→FR M G w (qc1 (qb5 A o) fr) a→∃ w',(execOp a.eval o).run P w=.ok .skip w'∧Ext (fun _=>False) G w G w'∧(∀ b,b≠G.mu idx→w'.heap[b]?=w.heap[b]?)∧idx < G.n∧G.live idx=true∧∃ sv',Sim M G sv' w'∧sv'[idx]?=some ob
theorem Sim.patch {M : Nat → Prop} {G : Gh} {s sv : List Ob} {w w' : World} {idx : Nat} {ob : Ob} (h : Sim M G s w) (hE : Ext (fun _ => False) G w G w') (ho : ∀ b, b ≠ G.mu idx → w'.heap[b]? = w.heap[b]?) (hi : idx < G.n) (hl : G.live idx = true) (hv : Sim M G sv w') (hg : sv[idx]? = some ob) : Sim M G (s.set idx ob) w' := by
  refine ⟨by simp [h.n], h.inj, h.own, ?_, fun {j} hj hl => Nat.lt_of_lt_of_le (h.lt hj hl) hE.size, ?_⟩
  · intro j o' hj hol
    rw [List.getElem?_set] at hj
    split at hj
    · rename_i e; subst e; exact hl
    · exact h.live j o' hj hol
  · intro j o' hj hol
    rw [List.getElem?_set] at hj
    split at hj
    · rename_i e
      subst e
      have hj : ob = o' := by
        first
        | simpa using hj
        | (split at hj
           · simpa using hj
           · cases hj)
      subst hj
      exact hv.at_ idx ob hg hol
    · rename_i e
      obtain ⟨us, g1, g2, g3⟩ := h.at_ j o' hj hol
      refine ⟨us, ?_, g2, fun k' a' v' hk hv' => (g3 k' a' v' hk hv').grow hE⟩
      rw [ho]
      · exact g1
      · intro e2
        have hj' : j < G.n := by rw [h.n]; exact q75 hj
        exact e (h.inj idx j hi hj' hl (h.live j o' hj hol) e2.symm)
def ux7 (P:Program)(A:Array Oper)(o:Oper)(fr:List AV)(ts:List Nat)(v:AV):Prop :=
 ∀ M G w a s,v00 P M G w→Sim M G s w→FR M G w (qc1 (qb5 A o) fr) a→∀ (K:Act→World→Prop) (Q:Exit→Act→World→Prop),
  (∀ cv G' w',Ext (fun b=>M b∧G.tg b ∈ ts) G w G' w'→Sim M G' (q77 ts s) w'→VR M G' w' v cv→K (a.put o.dst cv) w')→o.wp P a w K Q
theorem wu0 (s:List Ob):q77 [] s=s:=by
 unfold q77
 have:∀ o:Ob,{ o with cs:=o.cs.map (q46 []) }=o:=fun o=>by
  have:o.cs.map (q46 [])=o.cs:=by
   conv=>rhs; rw [← List.map_id o.cs]
   apply List.map_congr_left
   intro a _
   rcases zl4 [] a with e | ⟨_,t,_,h⟩
   ·exact e
   ·cases h
  rw [this]
 conv=>rhs; rw [← List.map_id s]
 exact List.map_congr_left fun o _=>this o
theorem HApp_full {P:Program}{A:Array Oper}{o:Oper}{fr:List AV}{c:Call}{x y:Operand}{t e:TypeId}{cs cs2:List AV}{n m size:Nat}{g2:Tag}(d:Nat)(ho:o.op=.call c)(hc:c.callee=.builtin .append)(ha:c.args=#[x,y])(ht:c.argTypes=#[t,t])(he:wm6 P t=some (e,size))
  (hx:q45 fr x=.list cs n .full) (hy:q45 fr y=.list cs2 m g2) (h0:0 < m) (hl1:cs.length=n * size) (hl2:cs2.length=m * size) (hone:cs2.all AV.one=true) (hfit:yc8 P e size (n + m)=true) :
  ux7 P A o fr [] (.list (cs ++ cs2) (n + m) (.own d e size)):=by
 intro M G w a s hF hS hf K Q hK
 have hm:∀ z,z=x∨z=y→q45 (qc1 (qb5 A o) fr) z=q45 fr z:=fun z hz=>qj5 (by simp [ho,Op.operands,Call.operands,ha]; rcases hz with rfl | rfl <;> simp)
 refine zz6 (s:=s) d ho hc ha ht he ((hm x (.inl rfl)).trans hx) ((hm y (.inr rfl)).trans hy) h0 hl1 hl2 hone hfit M G w a hF hS hf K Q fun cv G' w' h1 h2 h3 h4=>?_
 exact hK cv G' w' (h1.mono fun _ _ h=>h.elim) (by rw [wu0]; exact h2) h4
theorem HApp_own {P:Program}{A:Array Oper}{o:Oper}{fr:List AV}{c:Call}{x y:Operand}{t e:TypeId}{cs cs2:List AV}{n m size t0:Nat}{g2:Tag}(d:Nat)(ho:o.op=.call c)(hc:c.callee=.builtin .append)(ha:c.args=#[x,y])(ht:c.argTypes=#[t,t])(he:wm6 P t=some (e,size))
  (hx:q45 fr x=.list cs n (.own t0 e size)) (hy:q45 fr y=.list cs2 m g2) (h0:0 < m) (hl2:cs2.length=m * size) (hone:cs2.all AV.one=true) (hfit:yc8 P e size (n + m)=true) :
  ux7 P A o fr [t0] (.list (cs ++ cs2) (n + m) (.own d e size)):=by
 intro M G w a s hF hS hf K Q hK
 have hm:∀ z,z=x∨z=y→q45 (qc1 (qb5 A o) fr) z=q45 fr z:=fun z hz=>qj5 (by simp [ho,Op.operands,Call.operands,ha]; rcases hz with rfl | rfl <;> simp)
 exact ji5 (s:=s) d ho hc ha ht he ((hm x (.inl rfl)).trans hx) ((hm y (.inr rfl)).trans hy) h0 hl2 hone hfit M G w a hF hS hf K Q fun cv G' w' h1 h2 h3 h4=>hK cv G' w' h1 h2 h4
theorem ux7.weaken {P:Program}{A:Array Oper}{o:Oper}{fr:List AV}{ts:List Nat}{v v':AV}(h:ux7 P A o fr ts v)(k:WkM v v'):ux7 P A o fr ts v' :=
 fun M G w a s hF hS hf K Q hK=>h M G w a s hF hS hf K Q fun cv G' w' h1 h2 h3=>hK cv G' w' h1 h2 (k M G' w' cv h3)
def lf (listed:Array Bool):Nat→Bool:=fun i=>listed.getD i false
structure JJ3 (M:Nat→Prop) (G0:Gh) (w0:World) (A:Array Oper) (n:Nat) (S:(Nat→Bool)→List Ob) (T:(Nat→Bool)→List Nat) (fr:List AV) (val:Nat→AV) (listed:Array Bool) (a:Act) (w:World):Prop where
 g:∃ G,Ext M G0 w0 G w∧Sim M G (S (lf listed)) w ∧
  (∀ i d,i < n→listed.getD i false=true→(A[i]?).bind (·.dst)=some d→VR M G w (q46 (T (lf listed)) (val i)) (a.tmps.getD d undef)) ∧
  (∀ t,(∀ i,i < n→listed.getD i false=true→(A[i]?).bind (·.dst)≠some t)→VR M G w (q46 (T (lf listed)) (fr.getD t .undef)) (a.tmps.getD t undef))
 defers:a.defers=[]
 size:a.tmps.size=fr.length
structure Adm (A:Array Oper) (n i:Nat) (L:Nat→Bool):Prop where
 un:L i=false
 anc:∀ j,zp7 A A.size i j=true→L j=true
 dec:∀ j,zp7 A A.size j i=true→L j=false
 out:∀ j,n≤j→L j=false
def HF3 (P:Program)(A:Array Oper)(n nb K:Nat)(s0:List Ob)(wr:Nat→Option HW)(fr:List AV)(val:Nat→AV)(ts:Nat→List Nat)(sv:Nat→List Ob)(i:Nat)(o:Oper):Prop :=
 (∀ L,Adm A n i L→WkS (SR wr s0 K n L n) (sv i)) ∧
 (∀ j,j < n→j≠i→zp7 A A.size j i=false→∀ t ∈ HW.ts (wr j),t ∈ ts i) ∧
 ((q86 A (q64 (ts i) (wm5 A fr val i)) o=some false∧val i=.tuple []∧wr i=none) ∨
 (q86 A (q64 (ts i) (wm5 A fr val i)) o=some true∧match wr i with
  | none=>(val i).refs nb=true∧yq6 P A o (q64 (ts i) (wm5 A fr val i)) (sv i) (val i)
  | some (.alloc idx cs t)=>o.op=.alloc t∧wy3 P t=some cs∧val i=.ref idx 0∧nb≤idx∧idx < nb + K∧(∀ j idx' cs' t',j≠i→wr j=some (.alloc idx' cs' t')→idx'≠idx)∧(∀ j ob,wr j=some (.store idx ob)→zp7 A A.size j i=true)
  | some (.store idx ob)=>val i=.tuple []∧qe9 nb ob.cs=true∧HStore P A o (q64 (ts i) (wm5 A fr val i)) (sv i) idx ob∧(∀ j,i < j→j < n→(∀ s,u69 (wr j) s=s)∨zp7 A A.size j i=true)
  | some (.app t')=>(val i).refs nb=true∧ux7 P A o (q64 (ts i) (wm5 A fr val i)) t' (val i)∧(∀ j,i < j→j < n→(∀ s,u69 (wr j) s=s)∨zp7 A A.size j i=true)))
theorem absS_refs (n:Nat)(v:Value):(v31 v).refs n=true:=by
 cases v <;> simp only [v31] <;> (repeat' split) <;> simp [AV.refs,qe9]
theorem ur0 (n:Nat):∀ l:List Value,qe9 n (l.map v31)=true
 | []=>rfl
 | v :: l=>by simp only [List.map_cons,qe9,absS_refs n v,ur0 n l,Bool.and_self]
theorem zv6 {P:Program}{t:TypeId}{cs:List AV}(h:wy3 P t=some cs):∃ (i:TypeInfo) (z:Value),P.info? t=some i∧i.zero=some z∧cs=z.cells.toList.map v31:=by
 unfold wy3 at h
 split at h
 ·rename_i i hi
  cases hz:i.zero with
  | none=>rw [hz] at h; cases h
  | some z=>rw [hz] at h; simp at h; exact ⟨i,z,hi,hz,h.symm⟩
 ·cases h
theorem AV.refs_clear {nb:Nat}{ts:List Nat}{a:AV}(h:a.refs nb=true):(q46 ts a).refs nb=true:=by
 rcases zl4 ts a with e | ⟨e,-⟩
 ·rw [e]; exact h
 ·rw [e]
  clear e
  cases a <;> try exact h
  rename_i cs k g
  cases g <;> exact h
theorem xr0 {nb:Nat}{ts:List Nat}:∀ {cs:List AV},qe9 nb cs=true→qe9 nb (cs.map (q46 ts))=true
 | [],_=>rfl
 | a :: cs,h=>by
  simp only [qe9,Bool.and_eq_true,List.map_cons] at h ⊢
  exact ⟨AV.refs_clear h.1,xr0 h.2⟩
theorem jk7.set {nb:Nat}{s:List Ob}(h:jk7 nb s)(i:Nat){ob:Ob}(hb:qe9 nb ob.cs=true):jk7 nb (s.set i ob):=by
 intro j o hj hl
 rw [List.getElem?_set] at hj
 split at hj
 ·have:ob=o:=by
   split at hj
   ·simpa using hj
   ·cases hj
  subst this
  exact hb
 ·exact h j o hj hl
theorem jk7.clear {nb:Nat}{s:List Ob}(h:jk7 nb s)(ts:List Nat):jk7 nb (q77 ts s):=by
 intro j o hj hl
 obtain ⟨o',h1,rfl⟩:=qh4 hj
 exact xr0 (h j o' h1 hl)
theorem SR_belows {P:Program}{wr:Nat→Option HW}{s0:List Ob}{K n nb:Nat}{L:Nat→Bool}(h0:jk7 nb s0)(ha:∀ j idx cs t,j < n→wr j=some (.alloc idx cs t)→qe9 nb cs=true)(hs:∀ j idx ob,j < n→wr j=some (.store idx ob)→qe9 nb ob.cs=true):∀ m,m≤n→jk7 nb (SR wr s0 K n L m):=by
 have hb:∀ m,m≤n→jk7 nb (wh4 wr s0 K L m):=by
  intro m
  induction m with
  | zero =>
   intro _ j o hj hl
   simp only [wh4] at hj
   rw [List.getElem?_append] at hj
   split at hj
   ·exact h0 j o hj hl
   ·rw [List.getElem?_replicate] at hj
    split at hj
    ·cases hj; cases hl
    ·cases hj
  | succ m ih =>
   intro hm
   have ih:=ih (by omega)
   simp only [wh4]
   split
   ·rename_i idx cs t hw
    split
    ·exact ih.set _ (ha m idx cs t (by omega) hw)
    ·exact ih
   ·exact ih
 intro m
 induction m with
 | zero=>intro _; exact hb n (Nat.le_refl _)
 | succ m ih =>
  intro hm
  have ih:=ih (by omega)
  simp only [SR]
  split
  ·cases hw:wr m with
   | none=>exact ih
   | some w =>
    cases w with
    | alloc=>exact ih
    | store idx ob=>exact ih.set _ (hs m idx ob (by omega) hw)
    | app ts=>exact ih.clear ts
  ·exact ih
theorem uo6 {wr:Nat→Option HW}{L L':Nat→Bool}:∀ m,(∀ j,j < m→L j=L' j)→tsR wr L m=tsR wr L' m
 | 0,_=>rfl
 | m + 1,h=>by simp only [tsR,h m (by omega),uo6 m fun j hj=>h j (by omega)]
theorem w17 (ts:List Nat)(fr:List AV)(t:Nat):(q64 ts fr).getD t .undef=q46 ts (fr.getD t .undef):=by
 unfold q64
 rw [List.getD_eq_getElem?_getD,List.getElem?_map,List.getD_eq_getElem?_getD]
 cases fr[t]? with
 | none=>rfl
 | some x=>rfl
theorem w42 (ts:List Nat)(fr:List AV):(q64 ts fr).length=fr.length:=by simp [q64]
theorem AL_draw3 {n0:Nat}{P:Program}{A:Array Oper}{id n K:Nat}{s0:List Ob}{wr:Nat→Option HW}{fr:List AV}{val:Nat→AV}{ts:Nat→List Nat}{sv:Nat→List Ob}{Q:AQ}(hm:P.follows .mixedOrders=true)(hok:xr7 A n fr.length=true)
  (hwr:∀ j,n≤j→wr j=none) (hfact:∀ i,i < n→∀ o,A[i]?=some o→HF3 P A n s0.length K s0 wr fr val ts sv i o)
  (hfin:AL n0 P A (A.toList.drop n) (q64 (tsR wr (fun _=>true) n) (wm5 A fr val n)) (SR wr s0 K n (fun _=>true) n) Q):AW n0 P (.region id A true) fr s0 Q:=by
 obtain ⟨c1,c2,c3,c4,c5⟩:=zj4 hok
 intro M G0 w0 hM a w ⟨G,hE,hS,hF⟩
 refine wp_region_any hm ?_
 have hdst:∀ i j d,i < n→j < n→(A[i]?).bind (·.dst)=some d→(A[j]?).bind (·.dst)=some d→i=j:=by
  intro i j d hi hj h1 h2
  by_cases hne:i=j
  ·exact hne
  ·exfalso
   cases ho:A[j]? with
   | none=>rw [ho] at h2; cases h2
   | some o =>
    rw [ho] at h2
    exact ((c3 i d hi h1).2 j o hj ho).2 hne (by simpa using h2)
 have hG0:G0.n≤s0.length:=by rw [← hS.n]; exact hE.n
 have hfr0:∀ t,(fr.getD t .undef).refs s0.length=true:=fun t=>by rw [← hS.n]; exact VR0.refs _ _ (hF.at_ t).1
 have hb0:jk7 s0.length s0:=fun i o hi hl=>hS.refs hi hl
 have hbel:∀ L,jk7 s0.length (SR wr s0 K n L n):=fun L=>by
  refine SR_belows (P:=P) hb0 ?_ ?_ n (Nat.le_refl _)
  ·intro j idx cs t hj hw
   obtain ⟨_,_,h⟩:=hfact j hj A[j] (Array.getElem?_eq_getElem (by omega))
   rw [hw] at h
   rcases h with ⟨_,_,h⟩ | ⟨_,_,h,_⟩
   ·cases h
   ·obtain ⟨i,z,_,_,rfl⟩:=zv6 h
    exact ur0 _ _
  ·intro j idx ob hj hw
   obtain ⟨_,_,h⟩:=hfact j hj A[j] (Array.getElem?_eq_getElem (by omega))
   rw [hw] at h
   rcases h with ⟨_,_,h⟩ | ⟨_,_,h,_⟩
   ·cases h
   ·exact h
 have hcond:∀ i,i < n→(val i).refs s0.length=true∨∃ idx cs t,wr i=some (.alloc idx cs t)∧val i=.ref idx 0:=by
  intro i hi
  obtain ⟨_,_,h⟩:=hfact i hi A[i] (Array.getElem?_eq_getElem (by omega))
  rcases h with ⟨_,h,_⟩ | ⟨_,h⟩
  ·rw [h]; exact .inl rfl
  ·cases hw:wr i with
   | none=>rw [hw] at h; exact .inl h.1
   | some w =>
    rw [hw] at h
    cases w with
    | alloc idx cs t=>exact .inr ⟨idx,cs,t,rfl,h.2.2.1⟩
    | store idx ob=>rw [h.1]; exact .inl rfl
    | app t'=>exact .inl h.1
 -- what stands when the whole head is carried out
 have hend:∀ listed a w,(∀ i,i < n→listed.getD i false=true)→JJ3 M G0 w0 A n (fun L=>SR wr s0 K n L n) (fun L=>tsR wr L n) fr val listed a w →
   Rel M G0 w0 (q64 (tsR wr (fun _=>true) n) (wm5 A fr val n)) (SR wr s0 K n (fun _=>true) n) a w:=by
  intro listed a w hall ⟨⟨G',g1,g2,g3,g4⟩,j1,j2⟩
  have e1:SR wr s0 K n (lf listed) n=SR wr s0 K n (fun _=>true) n:=km4 (fun j hj=>hall j hj) n (Nat.le_refl _)
  have e2:tsR wr (lf listed) n=tsR wr (fun _=>true) n:=uo6 n fun j hj=>hall j hj
  simp only [e1,e2] at g2 g3 g4
  refine ⟨G',g1,g2,j1,by rw [j2,w42,w29],fun t=>?_⟩
  rw [w17]
  by_cases hex:∃ i,i < n∧(A[i]?).bind (·.dst)=some t
  ·obtain ⟨i,hi,hdi⟩:=hex
   rw [(w50 n).1 i hi hdi (fun k hk hne hh=>hne (hdst k i t hk hi hh hdi)) (c3 i t hi hdi).1]
   exact g3 i t hi (hall i hi) hdi
  ·have hno:∀ i,i < n→(A[i]?).bind (·.dst)≠some t:=fun i hi hh=>hex ⟨i,hi,hh⟩
   rw [(w50 n).2 hno]
   exact g4 t fun i hi _=>hno i hi
 -- the invariant's way
 have key:∀ (fuel:Nat) (listed:Array Bool) (a:Act) (w:World),listed.size=A.size→uw6 A listed→(∀ t,n≤t→listed.getD t false=false) →
   fuel=((List.range A.size).filter fun i=>!listed.getD i false).length→JJ3 M G0 w0 A n (fun L=>SR wr s0 K n L n) (fun L=>tsR wr L n) fr val listed a w→wpAny P .any A (QC M G0 w0 Q) fuel listed a w:=by
  intro fuel
  induction fuel with
  | zero =>
   intro listed a w hsz hcl htail hfuel hJ
   have hnone:∀ i,i < A.size→listed.getD i false=true:=by
    intro i hi
    cases hh:listed.getD i false with
    | true=>rfl
    | false =>
     have hmem:i ∈ (List.range A.size).filter fun i=>!listed.getD i false:=List.mem_filter.2 ⟨List.mem_range.2 hi,by simp [hh]⟩
     rw [List.eq_nil_of_length_eq_zero hfuel.symm] at hmem
     cases hmem
   have hns:A.size=n:=by
    rcases Nat.lt_or_ge n A.size with h1 | h1
    ·have:=hnone n h1; rw [htail n (Nat.le_refl _)] at this; cases this
    ·omega
   refine ⟨?_,?_⟩
   ·cases hr:Region.ready .any A listed with
    | nil=>rfl
    | cons x xs =>
     exfalso
     have hx:x ∈ Region.ready .any A listed:=by rw [hr]; simp
     obtain ⟨hun,o,ho,_⟩:=mem_ready.1 hx
     have hxs:x < A.size:=(Array.getElem?_eq_some_iff.1 ho).1
     have:=hnone x hxs
     rw [getD_both hun] at this
     cases this
   ·have hd:A.toList.drop n=[]:=by rw [List.drop_eq_nil_iff]; simp; omega
    rw [hd] at hfin
    exact hfin M G0 w0 hM a w (hend listed a w (fun i hi=>hnone i (by omega)) hJ)
  | succ fuel ih =>
   intro listed a w hsz hcl htail hfuel hJ
   by_cases hall:∀ i,i < n→listed.getD i false=true
   · -- the tail
    have hl:listed=((List.range A.size).map fun i=>decide (i < n)).toArray:=by
     apply Array.ext
     ·simp [hsz]
     ·intro i h1 h2
      simp only [List.getElem_toArray,List.getElem_map,List.getElem_range]
      by_cases hi:i < n
      ·have:=hall i hi
       simpa [h1,hi] using this
      ·have:=htail i (by omega)
       simpa [h1,hi] using this
    have hcount:fuel + 1=A.size - n:=by
     rw [hfuel]
     have:((List.range A.size).filter fun i=>!listed.getD i false)=(List.range' n (A.size - n)):=by
      have hsplit:List.range A.size=List.range' 0 n ++ List.range' n (A.size - n):=by
       rw [List.range_eq_range']
       have:=List.range'_append_1 (s:=0) (m:=n) (n:=A.size - n)
       rw [Nat.zero_add] at this
       rw [this]
       congr 1
       omega
      rw [hsplit,List.filter_append]
      rw [List.filter_eq_nil_iff.2 (by
       intro i hi
       rw [List.mem_range'_1] at hi
       simp only [Bool.not_eq_true',Bool.not_eq_false]
       exact hall i (by omega))]
      rw [List.nil_append,List.filter_eq_self.2]
      intro i hi
      rw [List.mem_range'_1] at hi
      rw [htail i hi.1]
      rfl
     rw [this,List.length_range']
    have hlist:=hfin M G0 w0 hM a w (hend listed a w hall hJ)
    have hseq:=wpAny_of_seq (P:=P) (ops:=A) (md:=.any) (A.toList.drop n) n listed a w (fun j=>by simp) (by rw [hl]; simpa using c5) hlist
    have hll:(A.toList.drop n).length=fuel + 1:=by simp; omega
    rw [hll] at hseq
    exact hseq
   · -- the head
    refine ⟨fun hr=>?_,fun i hi=>?_⟩
    ·exfalso
     -- the least that is not listed is ready
     have hex:∃ i,i < n∧listed.getD i false=false:=by
      refine Classical.byContradiction fun hno=>hall fun i hi=>?_
      cases hh:listed.getD i false with
      | true=>rfl
      | false=>exact absurd ⟨i,hi,hh⟩ hno
     have hmin:∀ m,(∃ i,i≤m∧i < n∧listed.getD i false=false)→False:=by
      intro m
      induction m using Nat.strongRecOn with
      | _ m ihm =>
       rintro ⟨i,him,hin,hun⟩
       have hio:i < A.size:=by omega
       have hready:i ∈ Region.ready .any A listed∨∃ j,j < i∧listed.getD j false=false:=by
        by_cases hp:∀ e ∈ A[i].after,Region.binds .any e=true→listed.getD e.on false=true
        ·exact .inl (mem_ready.2 ⟨getD_in (by omega) hun,A[i],Array.getElem?_eq_getElem hio,hp⟩)
        ·refine .inr (Classical.byContradiction fun hno=>hp fun ed hed hb=>?_)
         have hlt:=(c2 i A[i] (Array.getElem?_eq_getElem hio)).1 ed hed hb
         cases hh:listed.getD ed.on false with
         | true=>rfl
         | false=>exact absurd ⟨ed.on,hlt,hh⟩ hno
       rcases hready with h1 | ⟨j,hj,hjun⟩
       ·rw [hr] at h1; cases h1
       ·exact ihm j (by omega) ⟨j,Nat.le_refl _,by omega,hjun⟩
     obtain ⟨i,hi,hun⟩:=hex
     exact hmin i ⟨i,Nat.le_refl _,hi,hun⟩
    ·obtain ⟨hun,o,ho,hpre⟩:=mem_ready.1 hi
     have hio:i < A.size:=(Array.getElem?_eq_some_iff.1 ho).1
     have hin:i < n:=by
      rcases Nat.lt_or_ge i n with h1 | h1
      ·exact h1
      ·exfalso
       refine hall fun j hj=>?_
       exact qr3 hcl A.size i j o ho hpre (c4 i h1 hio j hj)
     obtain ⟨⟨G',g1,g2,g3,g4⟩,j1,j2⟩:=hJ
     have hunf:listed.getD i false=false:=getD_both hun
     have hadm:Adm A n i (lf listed):=by
      refine ⟨hunf,fun j hj=>qr3 hcl A.size i j o ho hpre hj,fun j hj=>?_,fun j hj=>htail j hj⟩
      cases hh:lf listed j with
      | false=>rfl
      | true =>
       cases hoj:A[j]? with
       | none =>
        have:∀ f,zp7 A f j i=false:=fun f=>by cases f <;> simp [zp7,hoj]
        rw [this] at hj
        cases hj
       | some oj =>
        have:=qr3 hcl A.size j i oj hoj (hcl j oj hoj hh) hj
        rw [hunf] at this
        cases this
     obtain ⟨hview,htsi,hwhat⟩:=hfact i hin o ho
     have hsv:Sim M G' (sv i) w:=g2.weaken (hview _ hadm)
     have htsub:∀ t ∈ tsR wr (lf listed) n,t ∈ ts i:=by
      intro t ht
      obtain ⟨j,hj1,hj2,hj3⟩:=y73.1 ht
      have hji:j≠i:=by intro e; subst e; rw [hadm.un] at hj2; cases hj2
      refine htsi j hj1 hji ?_ t hj3
      cases hh:zp7 A A.size j i with
      | false=>rfl
      | true=>rw [hadm.dec j hh] at hj2; cases hj2
     have hts2:∀ (x:AV) (u:Value),VR M G' w (q46 (tsR wr (lf listed) n) x) u→VR M G' w (q46 (ts i) x) u:=by
      intro x u hu
      rw [← qm9 htsub]
      exact zg7 (ts i) _ M G' w u hu
     -- the slots that it reads
     have hslot:∀ t,t ∈ o.looksAt A→VR M G' w (q46 (ts i) ((wm5 A fr val i).getD t .undef)) (a.tmps.getD t undef):=by
      intro t ht
      by_cases hex:∃ j,j < n∧(A[j]?).bind (·.dst)=some t
      ·obtain ⟨j,hj,hdj⟩:=hex
       obtain ⟨k1,k2⟩:=c3 j t hj hdj
       obtain ⟨hne,hb1,hb2⟩:=(k2 i o hin ho).1 ht
       rcases Nat.lt_or_gt_of_ne hne with hlt | hgt
       ·have hlj:listed.getD j false=true:=qr3 hcl A.size i j o ho hpre (hb1 hlt)
        rw [(w50 i).1 j hlt hdj (fun k hk hkj hh=>hkj (hdst k j t (by omega) hj hh hdj)) k1]
        exact hts2 _ _ (g3 j t hj hlj hdj)
       ·have hlj:listed.getD j false=false:=by
         cases hh:listed.getD j false with
         | false=>rfl
         | true =>
          cases hoj:A[j]? with
          | none=>rw [hoj] at hdj; cases hdj
          | some oj =>
           have:=qr3 hcl A.size j i oj hoj (hcl j oj hoj hh) (hb2 hgt)
           rw [hunf] at this
           cases this
        rw [(w50 i).2 fun k hk hh=>by have:=hdst k j t (by omega) hj hh hdj; omega]
        refine hts2 _ _ (g4 t fun k hk hlk hh=>?_)
        have:=hdst k j t hk hj hh hdj
        subst this
        rw [hlj] at hlk
        cases hlk
      ·have hno:∀ j,j < n→(A[j]?).bind (·.dst)≠some t:=fun j hj hh=>hex ⟨j,hj,hh⟩
       rw [(w50 i).2 fun k hk=>hno k (by omega)]
       exact hts2 _ _ (g4 t fun k hk _=>hno k hk)
     have hmask:FR M G' w (qc1 (qb5 A o) (q64 (ts i) (wm5 A fr val i))) a:=by
      refine ⟨j1,by simp [qc1,w42,w29,j2],fun t=>?_⟩
      unfold qc1
      rw [List.getD_eq_getElem?_getD,List.getElem?_map]
      by_cases ht:t < (q64 (ts i) (wm5 A fr val i)).length
      ·rw [List.getElem?_range ht]
       simp only [Option.map_some,Option.getD_some]
       split
       ·rename_i hc
        rw [w17]
        exact hslot t (by simpa [qb5] using hc)
       ·exact ⟨by simp only [VR0],qe8.of_plain rfl⟩
      ·rw [List.getElem?_eq_none (by simpa using ht)]
       exact ⟨by simp only [Option.map_none,Option.getD_none,VR0],qe8.of_plain rfl⟩
     have hwant:∀ b,q86 A (q64 (ts i) (wm5 A fr val i)) o=some b→Region.wanted o (yielded A a.tmps)=b:=by
      intro b hb
      refine zs1 (fr:=qc1 (qb5 A o) (q64 (ts i) (wm5 A fr val i))) ?_ hmask
      rw [← hb]
      unfold q86
      split
      ·rfl
      ·rename_i g want hg
       cases hd:(A[g]?).bind (·.dst) with
       | none=>rfl
       | some d =>
        dsimp only
        have hmem:d ∈ qb5 A o:=by
         unfold qb5 Oper.looksAt
         rw [hg]
         exact List.mem_append_right _ (by simp [hd])
        have:(qc1 (qb5 A o) (q64 (ts i) (wm5 A fr val i))).getD d .undef=(q64 (ts i) (wm5 A fr val i)).getD d .undef:=by
         unfold qc1
         rw [List.getD_eq_getElem?_getD,List.getElem?_map,List.getD_eq_getElem?_getD]
         by_cases h:d < (q64 (ts i) (wm5 A fr val i)).length
         ·rw [List.getElem?_range h]
          simp [hmem]
         ·rw [List.getElem?_eq_none (by simpa using h),List.getElem?_eq_none (Nat.le_of_not_lt h)]
          rfl
        rw [this]
     have hcount:fuel=((List.range A.size).filter fun k=>!(listed.setIfInBounds i true).getD k false).length:=by
      have hc:((List.range A.size).filter fun k=>!(listed.setIfInBounds i true).getD k false)=((List.range A.size).filter fun k=>!listed.getD k false).filter fun k=>k != i:=by
       rw [List.filter_filter]
       apply List.filter_congr
       intro k hk
       by_cases hki:i=k
       ·subst hki
        have:(listed.setIfInBounds i true).getD i false=true:=by simp [show i < listed.size by omega]
        rw [this]
        simp
       ·rw [getD_set_ne false hki]
        simp [Ne.symm hki]
      rw [hc]
      have hmem:i ∈ (List.range A.size).filter fun k=>!listed.getD k false:=List.mem_filter.2 ⟨List.mem_range.2 hio,by simp [hunf]⟩
      have hnd:((List.range A.size).filter fun k=>!listed.getD k false).Nodup:=List.Pairwise.filter _ List.nodup_range
      have:(((List.range A.size).filter fun k=>!listed.getD k false).filter fun k=>k != i).length=((List.range A.size).filter fun k=>!listed.getD k false).length - 1:=by
       rw [← List.Nodup.erase_eq_filter hnd,List.length_erase_of_mem hmem]
      rw [this,← hfuel]
      rfl
     have hlset:∀ k,(listed.setIfInBounds i true).getD k false=true↔k=i∨listed.getD k false=true:=by
      intro k
      by_cases hki:i=k
      ·subst hki
       have:(listed.setIfInBounds i true).getD i false=true:=by simp [show i < listed.size by omega]
       simp [this]
      ·rw [getD_set_ne false hki]
       simp [Ne.symm hki]
     have hlf:lf (listed.setIfInBounds i true)=xy9 (lf listed) i:=by
      funext k
      simp only [lf,xy9]
      by_cases hki:k=i
      ·rw [if_pos hki]; exact (hlset k).2 (.inl hki)
      ·rw [if_neg hki,getD_set_ne false (Ne.symm hki)]
     -- what follows when the operation has told a value
     have next:∀ (G2:Gh) (w2:World) (cv:Value),Ext M G0 w0 G2 w2→Sim M G2 (SR wr s0 K n (xy9 (lf listed) i) n) w2→VR M G2 w2 (val i) cv →
       (∀ (x:AV) (u:Value),(x.refs s0.length=true∨∃ k idx cs t,k≠i∧wr k=some (.alloc idx cs t)∧x=.ref idx 0)→VR M G' w (q46 (tsR wr (lf listed) n) x) u→VR M G2 w2 (q46 (tsR wr (xy9 (lf listed) i) n) x) u) →
       wpAny P .any A (QC M G0 w0 Q) fuel (listed.setIfInBounds i true) (a.put o.dst cv) w2:=by
      intro G2 w2 cv hE2 hS2 hv2 hkeep
      refine ih _ _ _ (by simp [hsz]) (xu1 hcl hi) (fun t ht=>by rw [getD_set_ne false (by omega)]; exact htail t ht) hcount ?_
      refine ⟨⟨G2,hE2,by simp only [hlf]; exact hS2,?_,?_⟩,by rw [u26]; exact j1,by rw [kp1]; exact j2⟩
      ·intro k d hk hlk hdk
       rw [hlset] at hlk
       rw [ug4]
       simp only [hlf]
       by_cases hki:k=i
       ·subst hki
        rw [ho] at hdk
        have hdk':o.dst=some d:=by simpa using hdk
        rw [if_pos ⟨hdk',by rw [j2]; exact (c3 k d hin (by rw [ho]; simpa using hdk')).1⟩]
        exact zg7 _ _ M G2 w2 cv hv2
       ·have hne:¬ (o.dst=some d∧d < a.tmps.size):=fun hh=>hki (hdst k i d hk hin hdk (by rw [ho]; simpa using hh.1))
        rw [if_neg hne]
        refine hkeep _ _ ?_ (g3 k d hk (hlk.resolve_left hki) hdk)
        rcases hcond k hk with h | ⟨idx,cs,t,h1,h2⟩
        ·exact .inl h
        ·exact .inr ⟨k,idx,cs,t,hki,h1,h2⟩
      ·intro t hno
       rw [ug4]
       simp only [hlf]
       have hne:¬ (o.dst=some t∧t < a.tmps.size):=fun hh=>hno i hin ((hlset i).2 (.inl rfl)) (by rw [ho]; simpa using hh.1)
       rw [if_neg hne]
       exact hkeep _ _ (.inl (hfr0 t)) (g4 t fun k hk hlk=>hno k hk ((hlset k).2 (.inr hlk)))
     have hTT:∀ t ∈ tsR wr (lf listed) n,t ∈ tsR wr (xy9 (lf listed) i) n:=by
      intro t ht
      obtain ⟨j,h1,h2,h3⟩:=y73.1 ht
      refine y73.2 ⟨j,h1,?_,h3⟩
      simp only [xy9]
      split
      ·rfl
      ·exact h2
     have hTi:∀ t ∈ HW.ts (wr i),t ∈ tsR wr (xy9 (lf listed) i) n:=fun t ht=>y73.2 ⟨i,hin,by simp [xy9],ht⟩
     -- without a new object
     have nextM:∀ (G2:Gh) (w2:World) (cv:Value),Ext (fun b=>M b∧G'.tg b ∈ HW.ts (wr i)) G' w G2 w2→Sim M G2 (SR wr s0 K n (xy9 (lf listed) i) n) w2→VR M G2 w2 (val i) cv →
       wpAny P .any A (QC M G0 w0 Q) fuel (listed.setIfInBounds i true) (a.put o.dst cv) w2:=by
      intro G2 w2 cv hE2 hS2 hv2
      refine next G2 w2 cv (g1.trans hE2 fun b _ h=>h.1) hS2 hv2 ?_
      intro x u _ hu
      rw [← qm9 hTT]
      refine (zg7 _ _ M G' w u hu).keep hE2 ?_
      intro g t hmk hg hlt _ _ _ hM2
      have h1:=qy1 hmk
      have h2:=hTi t (by rw [← hg]; exact hM2.2)
      simp [h2] at h1
     have hfr:=hM.1.ext g1
     have hnot:∀ (L:Nat→Bool) (s:List Ob),u69 none s=s:=fun _ _=>rfl
     have hchain:(∀ j,i < j→j < n→(∀ s,u69 (wr j) s=s)∨zp7 A A.size j i=true)→∀ j,i < j→lf listed j=true→∀ s,u69 (wr j) s=s:=by
      intro h j hij hl s
      rcases Nat.lt_or_ge j n with hj | hj
      ·rcases h j hij hj with h1 | h1
       ·exact h1 s
       ·rw [hadm.dec j h1] at hl; cases hl
      ·rw [hwr j hj]; rfl
     unfold wpOp
     rw [ho]
     dsimp only
     rcases hwhat with ⟨hw,hv,hwi⟩ | ⟨hw,hwhat⟩
     ·rw [hwant _ hw]
      simp only [Bool.false_eq_true,if_false]
      refine nextM G' w undef (Ext.refl _ _ _) ?_ ?_
      ·rw [va5 hin hadm.un (by rw [hwi]; intro _ _ _ h; cases h) (by rw [hwi]; intro h; exact absurd rfl h),hwi]
       exact g2
      ·rw [hv]
       exact ⟨by simp only [VR0]; exact ⟨[],rfl,by simp only [q56]⟩,qe8.of_plain rfl⟩
     ·rw [hwant _ hw]
      simp only [if_true]
      refine .inl ?_
      cases hwi:wr i with
      | none =>
       rw [hwi] at hwhat
       refine hwhat.2 M G' w a _ hfr g2 hsv hmask _ _ fun cv G2 w2 k1 k2 k3=>?_
       refine nextM G2 w2 cv (k1.mono fun _ _ h=>h.elim) ?_ k3
       rw [va5 hin hadm.un (by rw [hwi]; intro _ _ _ h; cases h) (by rw [hwi]; intro h; exact absurd rfl h),hwi]
       exact k2
      | some W =>
       rw [hwi] at hwhat
       cases W with
       | alloc idx cs t =>
        obtain ⟨hop,hz,hv,hn1,hn2,huq,hst⟩:=hwhat
        obtain ⟨inf,z,hz1,hz2,rfl⟩:=zv6 hz
        have hrun:(execOp a.eval o).run P w=.ok (.value (.pointer (some ⟨w.heap.size,0,none⟩))) (w.alloc (.cells z.cells.toList.toArray t)):=by
         simp [execOp,hop,Instr.alloc,zeroValue,typeInfo,hz1,hz2,newVar,newRow]
        unfold Oper.wp
        rw [hrun,Oper.upon_value]
        have hGn:G'.n=s0.length + K:=by rw [g2.n]; exact ut1 n
        have hlen:=ut1 (wr:=wr) (s0:=s0) (K:=K) (n:=n) (L:=lf listed) n
        have hA:=xl3.born (nb:=s0.length) (G:=G') (w:=w) (idx:=idx) (ob:=.cells z.cells.toList.toArray t) (by omega) hn1
        refine next (G'.born idx w.heap.size) _ _ (g1.born hG0 hn1) ?_ ?_ ?_
        ·rw [kl4 hin hadm.un hwi huq ?_ ?_]
         ·refine g2.born hn1 (by omega) (hbel _) (by simp) ?_
          intro Gx wx k x u h1 h2
          rw [List.getElem?_map,h2] at h1
          simp at h1
          subst h1
          exact ⟨x57 Gx wx u,qe8.of_plain (j60 u)⟩
         ·intro j idx' ob hl hwj e
          subst e
          rw [hadm.dec j (hst j ob hwj)] at hl
          cases hl
         ·intro x hx
          obtain ⟨u,_,rfl⟩:=List.mem_map.1 hx
          exact j60 u
        ·rw [hv]
         refine ⟨?_,qe8.of_plain rfl⟩
         simp only [VR0,Gh.born,if_true]
         exact ⟨trivial,by omega⟩
        ·intro x u hx hu
         rw [← qm9 hTT]
         have hu:=zg7 (tsR wr (xy9 (lf listed) i) n) _ M G' w u hu
         rcases hx with hx | ⟨k,idx',cs',t',hki,hwk,rfl⟩
         ·exact hu.alive hA (AV.refs_clear (AV.refs_clear hx))
         ·have hne:=huq k idx' cs' t' hki hwk
          have e:∀ tt tt2:List Nat,q46 tt (q46 tt2 (AV.ref idx' 0))=.ref idx' 0:=fun _ _=>rfl
          rw [e] at hu ⊢
          refine ⟨?_,qe8.of_plain rfl⟩
          have h0:=hu.1
          simp only [VR0,Gh.born] at h0 ⊢
          rw [if_neg hne]
          exact h0
       | store idx ob =>
        obtain ⟨hv,hbo,hst,hch⟩:=hwhat
        obtain ⟨w2,k1,k2,k3,k4,k5,sv',k6,k7⟩:=hst M G' w a hsv hmask
        unfold Oper.wp
        rw [k1,Oper.upon_skip]
        refine nextM G' w2 undef (k2.mono fun _ _ h=>h.elim) ?_ ?_
        ·rw [va5 hin hadm.un (by rw [hwi]; intro _ _ _ h; cases h) (fun _=>hchain hch),hwi]
         exact g2.patch k2 k3 k4 k5 k6 k7
        ·rw [hv]
         exact ⟨by simp only [VR0]; exact ⟨[],rfl,by simp only [q56]⟩,qe8.of_plain rfl⟩
       | app t' =>
        obtain ⟨_,hap,hch⟩:=hwhat
        refine hap M G' w a _ hfr g2 hmask _ _ fun cv G2 w2 k1 k2 k3=>?_
        refine nextM G2 w2 cv (by rw [hwi]; exact k1) ?_ k3
        rw [va5 hin hadm.un (by rw [hwi]; intro _ _ _ h; cases h) (fun _=>hchain hch),hwi]
        exact k2
 have h0S:SR wr s0 K n (lf (Array.replicate A.size false)) n=s0 ++ List.replicate K uf5:=by
  have e:∀ j,lf (Array.replicate A.size false) j=false:=fun j=>getD_replicate_false _ _
  have hb:∀ m,wh4 wr s0 K (lf (Array.replicate A.size false)) m=s0 ++ List.replicate K uf5:=by
   intro m
   induction m with
   | zero=>rfl
   | succ m ih=>simp only [wh4,e,ih]; split <;> rfl
  have hs:∀ m,SR wr s0 K n (lf (Array.replicate A.size false)) m=s0 ++ List.replicate K uf5:=by
   intro m
   induction m with
   | zero=>exact hb n
   | succ m ih=>simp only [SR,e,ih]; rfl
  exact hs n
 refine key A.size (Array.replicate A.size false) a _ (by simp) (fun j o hj hl=>by rw [getD_replicate_false] at hl; cases hl) (fun t _=>getD_replicate_false _ _) ?_ ?_
 ·rw [List.filter_eq_self.2 (fun i _=>by rw [getD_replicate_false]; rfl)]
  simp
 ·refine ⟨⟨G.room K w.heap.size,(hE.room K).drawn,?_,(fun i d _ hl=>by rw [getD_replicate_false] at hl; cases hl),fun t _=>?_⟩,hF.defers,hF.size⟩
  ·simp only [h0S]
   exact (hS.room K _).drawn
  ·have h1:VR M (G.room K w.heap.size) w (fr.getD t .undef) (a.tmps.getD t undef):=(hF.at_ t).alive (xl3.room K _) (by rw [hS.n]; exact hfr0 t)
   exact (zg7 _ _ M _ _ _ h1).drawn
end Go.Proofs.YtgicljncknbgcaaGreat.Abs
