/- Typed values: codes of types, what they hold, their cells; the evaluator's values. -/
import Derived.Test.YtgicljncknbgcaaGreatL2
set_option linter.unusedVariables false
set_option linter.unusedSimpArgs false
set_option linter.unusedSectionVars false
namespace Go.Proofs.YtgicljncknbgcaaGreat.Abs
open Go Go.ChangeShapes Go.WideShapes Go.ChangeAt Go.RowKit
inductive Ty where
 | int (k:IntKind)
 | bool
 | str
 | list (e:Ty)
 | st (fs:List Ty)
mutual
def El :Ty→Type
 | .int _=>Int
 | .bool=>Bool
 | .str=>List UInt8
 | .list e=>List (El e)
 | .st fs=>Els fs
def Els :List Ty→Type
 | []=>Unit
 | t :: ts=>El t×Els ts
end
mutual
def dflt :(t:Ty)→El t
 | .int _=>(0:Int)
 | .bool=>false
 | .str=>([]:List UInt8)
 | .list e=>([]:List (El e))
 | .st fs=>dflts fs
def dflts :(ts:List Ty)→Els ts
 | []=>()
 | t :: ts=>(dflt t,dflts ts)
end
mutual
def Ty.size :Ty→Nat
 | .int _=>1
 | .bool=>1
 | .str=>1
 | .list _=>1
 | .st fs=>us0 fs
def us0 :List Ty→Nat
 | []=>0
 | t :: ts=>t.size + us0 ts
end
mutual
def q47 :(t:Ty)→El t→List AV
 | .int k,n=>[.int k n]
 | .bool,b=>[.bool b]
 | .str,s=>[.str s]
 | .list e,xs=>[.list (List.flatMap (q47 e) xs) (List.length xs) .unk]
 | .st fs,x=>qc0 fs x
def qc0 :(ts:List Ty)→Els ts→List AV
 | [],_=>[]
 | t :: ts,x=>q47 t x.1 ++ qc0 ts x.2
end
mutual
theorem qe2 :∀ (t:Ty) (x:El t),(q47 t x).length=t.size
 | .int _,_=>rfl
 | .bool,_=>rfl
 | .str,_=>rfl
 | .list _,_=>rfl
 | .st fs,x=>by simp only [q47,Ty.size]; exact xm2 fs x
theorem xm2 :∀ (ts:List Ty) (x:Els ts),(qc0 ts x).length=us0 ts
 | [],_=>rfl
 | t :: ts,x=>by simp only [qc0,us0,List.length_append,qe2 t x.1,xm2 ts x.2]
end
theorem qy2 {t:Ty}(xs:List (El t)):(xs.flatMap (q47 t)).length=xs.length * t.size:=by
 induction xs with
 | nil=>simp
 | cons x xs ih=>simp only [List.flatMap_cons,List.length_append,qe2,ih,List.length_cons]; rw [Nat.add_mul]; omega
mutual
def tyEq :(a b:Ty)→Decidable (a=b)
 | .int k,.int k'=>if h:k=k' then .isTrue (by rw [h]) else .isFalse (by intro e; cases e; exact h rfl)
 | .bool,.bool=>.isTrue rfl
 | .str,.str=>.isTrue rfl
 | .list a,.list b=>match tyEq a b with
  | .isTrue h=>.isTrue (by rw [h])
  | .isFalse h=>.isFalse (by intro e; cases e; exact h rfl)
 | .st a,.st b=>match tysEq a b with
  | .isTrue h=>.isTrue (by rw [h])
  | .isFalse h=>.isFalse (by intro e; cases e; exact h rfl)
 | .int _,.bool=>.isFalse (by intro e; cases e)
 | .int _,.str=>.isFalse (by intro e; cases e)
 | .int _,.list _=>.isFalse (by intro e; cases e)
 | .int _,.st _=>.isFalse (by intro e; cases e)
 | .bool,.int _=>.isFalse (by intro e; cases e)
 | .bool,.str=>.isFalse (by intro e; cases e)
 | .bool,.list _=>.isFalse (by intro e; cases e)
 | .bool,.st _=>.isFalse (by intro e; cases e)
 | .str,.bool=>.isFalse (by intro e; cases e)
 | .str,.int _=>.isFalse (by intro e; cases e)
 | .str,.list _=>.isFalse (by intro e; cases e)
 | .str,.st _=>.isFalse (by intro e; cases e)
 | .list _,.bool=>.isFalse (by intro e; cases e)
 | .list _,.str=>.isFalse (by intro e; cases e)
 | .list _,.int _=>.isFalse (by intro e; cases e)
 | .list _,.st _=>.isFalse (by intro e; cases e)
 | .st _,.bool=>.isFalse (by intro e; cases e)
 | .st _,.str=>.isFalse (by intro e; cases e)
 | .st _,.list _=>.isFalse (by intro e; cases e)
 | .st _,.int _=>.isFalse (by intro e; cases e)
def tysEq :(a b:List Ty)→Decidable (a=b)
 | [],[]=>.isTrue rfl
 | [],_ :: _=>.isFalse (by intro e; cases e)
 | _ :: _,[]=>.isFalse (by intro e; cases e)
 | a :: as,b :: bs=>match tyEq a b,tysEq as bs with
  | .isTrue h,.isTrue k=>.isTrue (by rw [h,k])
  | .isFalse h,_=>.isFalse (by intro e; cases e; exact h rfl)
  | _,.isFalse h=>.isFalse (by intro e; cases e; exact h rfl)
end
def v44 {a:Ty}(b:Ty)(x:List (El a)):Option (List (El b)):=match tyEq a b with
 | .isTrue h=>some (h ▸ x)
 | .isFalse _=>none
inductive TV where
 | undef
 | int (k:IntKind) (n:Int)
 | bool (b:Bool)
 | tt
 | ff
 | str (s:List UInt8)
 | nilp
 | ref (i o:Nat)
 | tl (t:Ty) (xs:List (El t)) (g:Tag)
 | ll (cs:List TV) (n:Nat) (g:Tag)
 | ep (cs:List TV) (o:Nat)
 | arr (i n:Nat)
 | ap (i:Nat) (ix:Int) (sz o:Nat)
 | nilf
 | func (f:Fn) (cs:List TV)
 | agg (cs:List TV)
 | tup (vs:List TV)
mutual
def u25 :(t:Ty)→El t→List TV
 | .int k,n=>[.int k n]
 | .bool,b=>[.bool b]
 | .str,s=>[.str s]
 | .list e,xs=>[.tl e xs .unk]
 | .st fs,x=>x80 fs x
def x80 :(ts:List Ty)→Els ts→List TV
 | [],_=>[]
 | t :: ts,x=>u25 t x.1 ++ x80 ts x.2
end
mutual
def dn :TV→AV
 | .undef=>.undef
 | .int k n=>.int k n
 | .bool b=>.bool b
 | .tt=>.bool true
 | .ff=>.bool false
 | .str s=>.str s
 | .nilp=>.nilp
 | .ref i o=>.ref i o
 | .tl t xs g=>.list (xs.flatMap (q47 t)) xs.length g
 | .ll cs n g=>.list (dns cs) n g
 | .ep cs o=>.eptr (dns cs) o
 | .arr i n=>.arr i n
 | .ap i ix sz o=>.ref i (ix.toNat * sz + o)
 | .nilf=>.nilf
 | .func f cs=>.func f (dns cs)
 | .agg cs=>.agg (dns cs)
 | .tup vs=>.tuple (dns vs)
def dns :List TV→List AV
 | []=>[]
 | a :: as=>dn a :: dns as
end
theorem ql7 :∀ l:List TV,dns l=l.map dn
 | []=>rfl
 | a :: as=>by simp only [dns,List.map_cons,ql7 as]
theorem jz1 (a b:List TV):dns (a ++ b)=dns a ++ dns b:=by simp [ql7]
mutual
theorem y74 :∀ (t:Ty) (x:El t),dns (u25 t x)=q47 t x
 | .int _,_=>rfl
 | .bool,_=>rfl
 | .str,_=>rfl
 | .list _,_=>rfl
 | .st fs,x=>by simp only [u25,q47]; exact zg8 fs x
theorem zg8 :∀ (ts:List Ty) (x:Els ts),dns (x80 ts x)=qc0 ts x
 | [],_=>rfl
 | t :: ts,x=>by simp only [x80,qc0,jz1,y74 t x.1,zg8 ts x.2]
end
def Wk (a b:AV):Prop:=∀ G w v,VR0 G w a v→VR0 G w b v
def WkM (a b:AV):Prop:=∀ M G w v,VR M G w a v→VR M G w b v
theorem Wk.refl (a:AV):Wk a a:=fun _ _ _ h=>h
theorem WkM.refl (a:AV):WkM a a:=fun _ _ _ _ h=>h
theorem Wk.trans {a b c:AV}(h:Wk a b)(k:Wk b c):Wk a c:=fun G w v x=>k G w v (h G w v x)
theorem WkM.of {a b:AV}(h:Wk a b)(hb:b.mark=none):WkM a b:=fun M G w v x=>⟨h G w v x.1,qf0.of_plain hb⟩
theorem Wk.undef (a:AV):Wk a .undef:=fun _ _ _ _=>by simp only [VR0]
theorem WkM.undef (a:AV):WkM a .undef:=.of (.undef a) rfl
inductive Wks:List AV→List AV→Prop
 | nil:Wks [] []
 | cons {a b as bs}:Wk a b→Wks as bs→Wks (a :: as) (b :: bs)
theorem Wks.refl :∀ l,Wks l l
 | []=>.nil
 | a :: l=>.cons (.refl a) (Wks.refl l)
theorem Wks.app {a b c d:List AV}(h:Wks a b)(k:Wks c d):Wks (a ++ c) (b ++ d):=by
 induction h with
 | nil=>exact k
 | cons h _ ih=>exact .cons h ih
theorem Wks.len {a b:List AV}(h:Wks a b):a.length=b.length:=by
 induction h with
 | nil=>rfl
 | cons _ _ ih=>simp [ih]
theorem Wks.trans {a b c:List AV}(h:Wks a b):Wks b c→Wks a c:=by
 induction h generalizing c with
 | nil=>exact id
 | cons h _ ih=>intro k; cases k with | cons k1 k2=>exact .cons (h.trans k1) (ih k2)
theorem Wks.VRs0 {G:Gh}{w:World}{a b:List AV}(h:Wks a b):∀ {vs:List Value},q55 G w a vs→q55 G w b vs:=by
 induction h with
 | nil=>exact id
 | cons h _ ih =>
  intro vs k
  simp only [Abs.q55] at k ⊢
  obtain ⟨v,vs',e,k1,k2⟩:=k
  exact ⟨v,vs',e,h G w v k1,ih k2⟩
theorem Wk.agg {a b:List AV}(h:Wks a b):Wk (.agg a) (.agg b):=fun G w v k=>by
 simp only [VR0] at k ⊢
 obtain ⟨vs,e,k⟩:=k
 exact ⟨vs,e,h.VRs0 k⟩
theorem Wk.tuple {a b:List AV}(h:Wks a b):Wk (.tuple a) (.tuple b):=fun G w v k=>by
 simp only [VR0] at k ⊢
 obtain ⟨vs,e,k⟩:=k
 exact ⟨vs,e,h.VRs0 k⟩
theorem Wk.func {f:Fn}{a b:List AV}(h:Wks a b):Wk (.func f a) (.func f b):=fun G w v k=>by
 simp only [VR0] at k ⊢
 obtain ⟨vs,e,k⟩:=k
 exact ⟨vs,e,h.VRs0 k⟩
theorem Wk.list {a b:List AV}{n:Nat}{g g':Tag}(h:Wks a b)(hg:g'=.full→g=.full):Wk (.list a n g) (.list b n g'):=fun G w v k=>by
 simp only [VR0] at k ⊢
 obtain ⟨A,cap,k1,k2,k3,k4⟩:=k
 refine ⟨A,cap,k1,k2,fun e=>k3 (hg e),?_⟩
 rcases k4 with rfl | ⟨bl,o,vs,k5,k6,k7,k8⟩
 ·cases h; exact .inl rfl
 ·exact .inr ⟨bl,o,vs,k5,by rw [← h.len]; exact k6,k7,h.VRs0 k8⟩
theorem Wk.unk {a b:List AV}{n:Nat}{g:Tag}(h:Wks a b):Wk (.list a n g) (.list b n .unk):=.list h (by intro e; cases e)
theorem WkM.full {cs:List AV}{n t:Nat}{e:TypeId}{z:Nat}(h:cs.length=n * z):WkM (.list cs n .full) (.list cs n (.own t e z)):=fun M G w v k=>by
 obtain ⟨k,_⟩:=k
 refine ⟨Wk.list (Wks.refl _) (by intro e; cases e) G w v k,?_⟩
 simp only [VR0] at k
 obtain ⟨A,cap,k1,k2,k3,k4⟩:=k
 have:=k3 trivial
 subst this
 exact .inl ⟨A,k1,h⟩
theorem AV.plain_wk (a:AV):Wk a a.plain:=fun _ _ _ h=>h.plain
theorem Wk.eptr {cs a c:List AV}{n:Nat}{o:Nat}(h:cs=a ++ c.take n ++ c.drop n)(hn:n≤c.length):Wk (.eptr cs (a.length + o)) (.eptr (c.take n) o):=fun G w v k=>by
 simp only [VR0] at k ⊢
 obtain ⟨b,ob,vs,k1,⟨k2,k2',k2''⟩,k3,k4⟩:=k
 have hl:vs.length=cs.length:=k4.length
 have hcl:cs.length=a.length + c.length:=by rw [h,List.append_assoc,List.take_append_drop,List.length_append]
 refine ⟨b,ob + a.length,(vs.drop a.length).take n,by rw [k1,Nat.add_assoc],⟨k2,k2',fun ho=>?_⟩,?_,?_⟩
 ·have:=k2'' ho
  simp only [List.length_take]
  omega
 ·intro i v hi
  rw [List.getElem?_take] at hi
  split at hi
  ·rw [List.getElem?_drop] at hi
   have:=k3 _ _ hi
   rw [← Nat.add_assoc] at this
   exact this
  ·cases hi
 ·have h2:=(k4.drop a.length).take n
  rw [h] at h2
  rw [List.append_assoc,List.drop_left] at h2
  rw [List.take_append_of_le_length (by simp; omega)] at h2
  rw [List.take_take,Nat.min_self] at h2
  exact h2
def decN {α:Type}(f:List TV→Option (α×List TV)):Nat→List TV→Option (List α)
 | 0,[]=>some []
 | 0,_ :: _=>none
 | n + 1,cs=>match f cs with
  | some (x,r)=>(decN f n r).map (x :: ·)
  | none=>none
def hd {α:Type}(f:TV→Option α):List TV→Option (α×List TV)
 | []=>none
 | c :: r=>match f c with
  | some x=>some (x,r)
  | none=>none
def dInt (k:IntKind):TV→Option Int
 | .int k' n=>if k=k' then some n else none
 | _=>none
def dBool :TV→Option Bool
 | .bool b=>some b
 | .tt=>some true
 | .ff=>some false
 | _=>none
def dStr :TV→Option (List UInt8)
 | .str s=>some s
 | _=>none
def dLst (e:Ty)(f:List TV→Option (El e×List TV)):TV→Option (List (El e))
 | .tl e' xs _=>v44 e xs
 | .ll cs n _=>decN f n cs
 | _=>none
mutual
def dec :(t:Ty)→List TV→Option (El t×List TV)
 | .int k=>hd (dInt k)
 | .bool=>hd dBool
 | .str=>hd dStr
 | .list e=>hd (dLst e (dec e))
 | .st fs=>decs fs
def decs :(ts:List Ty)→List TV→Option (Els ts×List TV)
 | []=>fun cs=>some ((),cs)
 | t :: ts=>fun cs=>match dec t cs with
  | some (x,r)=>match decs ts r with
   | some (y,r2)=>some ((x,y),r2)
   | none=>none
  | none=>none
end
theorem u42 {α:Type}{f:TV→Option α}{cs:List TV}{x:α}{r:List TV}(h:hd f cs=some (x,r)):∃ c,cs=c :: r∧f c=some x:=by
 cases cs with
 | nil=>simp [hd] at h
 | cons c cs =>
  simp only [hd] at h
  split at h
  ·rename_i y hy; cases h; exact ⟨c,rfl,hy⟩
  ·cases h
theorem qz4 {a b:Ty}{x:List (El a)}{y:List (El b)}(h:v44 b x=some y):∃ e:a=b,y=e ▸ x:=by
 unfold v44 at h
 split at h
 ·rename_i e _; cases h; exact ⟨e,rfl⟩
 ·cases h
theorem q50 {α β:Type}{x:Option α}{f:α→β}{y:β}(h:x.map f=some y):∃ a,x=some a∧f a=y:=by
 cases x with
 | none=>cases h
 | some a=>exact ⟨a,rfl,by simpa using h⟩
theorem vl0 {t:Ty}(f:List TV→Option (El t×List TV))(hf:∀ cs x r,f cs=some (x,r)→Wks (dns cs) (q47 t x ++ dns r)):∀ (n:Nat) (cs:List TV) (xs:List (El t)),decN f n cs=some xs→Wks (dns cs) (xs.flatMap (q47 t))∧xs.length=n
 | 0,[],xs,h=>by simp only [decN,Option.some.injEq] at h; subst h; exact ⟨.nil,rfl⟩
 | 0,_ :: _,xs,h=>by simp [decN] at h
 | n + 1,cs,xs,h=>by
  simp only [decN] at h
  split at h
  ·rename_i x r hx
   obtain ⟨ys,h1,rfl⟩:=q50 h
   obtain ⟨h2,h3⟩:=vl0 f hf n r ys h1
   refine ⟨(hf _ _ _ hx).trans ?_,by simp [h3]⟩
   rw [List.flatMap_cons]
   exact .app (.refl _) h2
  ·cases h
mutual
theorem zf7 :∀ (t:Ty) (cs:List TV) (x:El t) (r:List TV),dec t cs=some (x,r)→Wks (dns cs) (q47 t x ++ dns r)
 | .int k,cs,x,r,h=>by
  simp only [dec] at h
  obtain ⟨c,rfl,h2⟩:=u42 h
  clear h
  have h:=h2
  clear h2
  unfold dInt at h
  split at h
  ·split at h
   ·rename_i hk; subst hk; cases h; exact .refl _
   ·cases h
  ·cases h
 | .bool,cs,x,r,h=>by
  simp only [dec] at h
  obtain ⟨c,rfl,h2⟩:=u42 h
  clear h
  have h:=h2
  clear h2
  unfold dBool at h
  split at h <;> cases h <;> exact .refl _
 | .str,cs,x,r,h=>by
  simp only [dec] at h
  obtain ⟨c,rfl,h2⟩:=u42 h
  clear h
  have h:=h2
  clear h2
  unfold dStr at h
  split at h <;> cases h <;> exact .refl _
 | .list e,cs,x,r,h=>by
  simp only [dec] at h
  obtain ⟨c,rfl,h2⟩:=u42 h
  clear h
  have h:=h2
  clear h2
  unfold dLst at h
  split at h
  ·obtain ⟨e1,h3⟩:=qz4 h
   subst e1
   subst h3
   exact .cons (.unk (.refl _)) (.refl _)
  ·rename_i cs' n g
   obtain ⟨h3,h4⟩:=vl0 (dec e) (fun cs x r h=>zf7 e cs x r h) n cs' _ h
   refine .cons ?_ (.refl _)
   show Wk (.list (dns cs') n g) (.list _ _ .unk)
   rw [h4]
   exact .unk h3
  ·cases h
 | .st fs,cs,x,r,h=>by
  simp only [dec] at h
  exact ve4 fs cs x r h
theorem ve4 :∀ (ts:List Ty) (cs:List TV) (x:Els ts) (r:List TV),decs ts cs=some (x,r)→Wks (dns cs) (qc0 ts x ++ dns r)
 | [],cs,x,r,h=>by simp only [decs] at h; cases h; exact .refl _
 | t :: ts,cs,x,r,h=>by
  simp only [decs] at h
  split at h
  ·rename_i y r1 h1
   split at h
   ·rename_i z r2' h2
    cases h
    have a1:=zf7 t cs y r1 h1
    have a2:=ve4 ts r1 z _ h2
    simp only [qc0]
    rw [List.append_assoc]
    exact a1.trans (.app (.refl _) a2)
   ·cases h
  ·cases h
end
def decV :(t:Ty)→TV→Option (El t)
 | .st fs=>fun v=>match v with
  | .agg cs=>match decs fs cs with
   | some (x,[])=>some x
   | _=>none
  | _=>none
 | .int k=>dInt k
 | .bool=>dBool
 | .str=>dStr
 | .list e=>dLst e (dec e)
def kf3 :(t:Ty)→El t→TV
 | .int k,n=>.int k n
 | .bool,b=>.bool b
 | .str,s=>.str s
 | .list e,xs=>.tl e xs .unk
 | .st fs,x=>.agg (x80 fs x)
def aval (t:Ty)(x:El t):AV:=dn (kf3 t x)
theorem jv4 {t:Ty}{v:TV}{x:El t}(h:decV t v=some x):Wk (dn v) (aval t x):=by
 cases t with
 | st fs =>
  simp only [decV] at h
  split at h
  ·rename_i cs
   split at h
   ·rename_i y hy
    cases h
    have:=ve4 fs cs x [] hy
    simp only [dns,List.append_nil] at this
    have e:aval (.st fs) x=.agg (qc0 fs x):=congrArg AV.agg (zg8 fs x)
    rw [e]
    exact .agg this
   ·cases h
  ·cases h
 | int k =>
  have h2:dec (.int k) [v]=some (x,[]):=by simp only [dec,hd]; rw [show dInt k v=some x from h]
  have:=zf7 _ _ _ _ h2
  simp only [dns,List.append_nil,q47] at this
  cases this with | cons h1 _=>exact h1
 | bool =>
  have h2:dec .bool [v]=some (x,[]):=by simp only [dec,hd]; rw [show dBool v=some x from h]
  have:=zf7 _ _ _ _ h2
  simp only [dns,List.append_nil,q47] at this
  cases this with | cons h1 _=>exact h1
 | str =>
  have h2:dec .str [v]=some (x,[]):=by simp only [dec,hd]; rw [show dStr v=some x from h]
  have:=zf7 _ _ _ _ h2
  simp only [dns,List.append_nil,q47] at this
  cases this with | cons h1 _=>exact h1
 | list e =>
  have h2:dec (.list e) [v]=some (x,[]):=by simp only [dec,hd]; rw [show dLst e (dec e) v=some x from h]
  have:=zf7 _ _ _ _ h2
  simp only [dns,List.append_nil,q47] at this
  cases this with | cons h1 _=>exact h1
theorem k23 (t:Ty)(x:El t):(aval t x).mark=none:=by cases t <;> rfl
def vq0 :Value→TV
 | .int k n=>.int k n
 | .bool b=>if b=true then .tt else .ff
 | .string s=>.str s.data.toList
 | .pointer a=>if a=none then .nilp else .undef
 | .slice a n c=>if a=none∧n=0∧c=0 then .ll [] 0 .full else .undef
 | .nilFunc=>.nilf
 | .func fn a b=>if a.size=0∧b.size=0 then .func fn [] else .undef
 | .tuple a=>if a.size=0 then .tup [] else .undef
 | _=>.undef
def tAbs :Value→TV
 | .agg cs=>.agg (cs.toList.map vq0)
 | v=>vq0 v
theorem u89 (v:Value):dn (vq0 v)=vn2 v:=by
 cases v <;> simp only [vq0,vn2] <;> (try split) <;> (try simp_all [dn,dns])
theorem dn_tAbs (v:Value):dn (tAbs v)=absV v:=by
 cases v <;> simp only [tAbs,absV] <;> first | exact u89 _ | skip
 simp only [dn,ql7,List.map_map]
 congr 1
 apply List.map_congr_left
 intro a _
 exact u89 a
def q88 (fr:List TV):Operand→TV
 | .tmp t=>fr.getD t .undef
 | .const v=>tAbs v
 | .func f=>.func (.func f) []
 | .global _=>.undef
theorem w46 :∀ (fr:List TV) (t:Nat),(dns fr).getD t .undef=dn (fr.getD t .undef)
 | [],t=>by simp [dns,dn]
 | a :: as,0=>by simp [dns]
 | a :: as,t + 1=>by simpa [dns] using w46 as t
theorem q59 (fr:List TV)(x:Operand):dn (q88 fr x)=q44 (dns fr) x:=by
 cases x with
 | tmp t=>simp only [q88,q44]; rw [w46]
 | const v=>exact dn_tAbs v
 | func f=>rfl
 | global g=>rfl
theorem u70 :∀ (fr:List TV) (d:Nat) (v:TV),dns (fr.set d v)=(dns fr).set d (dn v)
 | [],d,v=>rfl
 | a :: as,0,v=>rfl
 | a :: as,d + 1,v=>by simp only [List.set_cons_succ,dns,u70 as d v]
theorem qb6 :∀ fr:List TV,(dns fr).length=fr.length
 | []=>rfl
 | a :: as=>by simp [dns,qb6 as]
def tPut (fr:List TV)(d:Option Nat)(v:TV):List TV:=match d with
 | some d=>fr.set d v
 | none=>fr
theorem qy1 (fr:List TV)(d:Option Nat)(v:TV):dns (tPut fr d v)=xy3 (dns fr) d (dn v):=by
 cases d with
 | none=>rfl
 | some d=>exact u70 fr d v
inductive TOb where
 | cells (cs:List TV) (t:TypeId) (live:Bool)
 | tarr (ty:Ty) (xs:List (El ty)) (t:TypeId) (live:Bool)
def dnO :TOb→Ob
 | .cells cs t l=>⟨dns cs,t,l⟩
 | .tarr ty xs t l=>⟨xs.flatMap (q47 ty),t,l⟩
def dnS (s:List TOb):List Ob:=s.map dnO
theorem qi6 (s:List TOb)(i:Nat):(dnS s)[i]?=(s[i]?).map dnO:=by simp [dnS]
theorem q84 (s:List TOb):(dnS s).length=s.length:=by simp [dnS]
def gdP (g:Bool):Prop:=g=true
def qp1 :TV→TV
 | .tl t xs (.own _ _ _)=>.tl t xs .unk
 | .ll cs n (.own _ _ _)=>.ll cs n .unk
 | v=>v
theorem qn7 (v:TV):dn (qp1 v)=(dn v).plain:=by
 cases v <;> try rfl
 ·rename_i t xs g; cases g <;> rfl
 ·rename_i cs n g; cases g <;> rfl
theorem zx5 (l:List TV):dns (l.map qp1)=(dns l).map AV.plain:=by
 simp only [ql7,List.map_map]
 apply List.map_congr_left
 intro a _
 exact qn7 a
theorem wi6 :∀ (l:List TV) (n:Nat),dns (l.take n)=(dns l).take n
 | [],n=>by simp [dns]
 | a :: l,0=>rfl
 | a :: l,n + 1=>by simp only [List.take_succ_cons,dns,wi6 l n]
theorem wh5 :∀ (l:List TV) (n:Nat),dns (l.drop n)=(dns l).drop n
 | [],n=>by simp [dns]
 | a :: l,0=>rfl
 | a :: l,n + 1=>by simp only [List.drop_succ_cons,dns,wh5 l n]
theorem uh1 (l:List TV)(i:Nat):(dns l)[i]?=(l[i]?).map dn:=by rw [ql7]; simp
def asB :TV→Option Bool
 | .bool b=>some b
 | .tt=>some true
 | .ff=>some false
 | _=>none
theorem x47 {v:TV}{b:Bool}(h:asB v=some b):dn v=.bool b:=by
 unfold asB at h; split at h <;> cases h <;> rfl
def q26 :Int→Bool
 | .ofNat n=>Nat.ble n 9223372036854775807
 | .negSucc n=>Nat.ble n 9223372036854775807
theorem k04 (n:Int):q26 n=true↔-9223372036854775808≤n∧n≤9223372036854775807:=by
 cases n with
 | ofNat n=>simp only [q26,Nat.ble_eq]; simp only [Int.ofNat_eq_natCast]; omega
 | negSucc n=>simp only [q26,Nat.ble_eq]; omega
def w23 (n m:Nat):Bool:=Nat.ble n m
theorem ua0 (n m:Nat):w23 n m=true↔n≤m:=by simp only [w23,Nat.ble_eq]
def qt8 (a b:List UInt8):Bool:=Nat.ble (a.length + b.length) 9223372036854775807
theorem yu6 (a b:List UInt8):qt8 a b=true↔a.length + b.length≤9223372036854775807:=by simp only [qt8,Nat.ble_eq]
def jw4 (bytes:Nat)(n m:Int):Bool:=(n == m) && match n with
 | .ofNat k=>Nat.ble (bytes * k) 281474976710656 && Nat.ble k 9223372036854775807
 | .negSucc _=>false
theorem jd2 (bytes:Nat)(n m:Int):jw4 bytes n m=true↔n=m∧0≤n∧(bytes:Int) * n≤281474976710656∧n≤9223372036854775807:=by
 unfold jw4
 cases n with
 | ofNat k =>
  simp only [Bool.and_eq_true,beq_iff_eq,Nat.ble_eq,Int.ofNat_eq_natCast]
  rw [← Int.natCast_mul]
  omega
 | negSucc k=>simp only [Bool.and_false,Bool.false_eq_true,false_iff]; omega
def tW (wr:Bool)(k:IntKind)(n:Int):Bool×Int:=match wr,k with
 | false,.i64=>(q26 n,n)
 | _,k=>(true,k.wrap n)
theorem u45 {wr:Bool}{k:IntKind}{n:Int}(h:(tW wr k n).1=true):(tW wr k n).2=k.wrap n:=by
 unfold tW at h ⊢
 split
 ·have h2:=(k04 n).1 h
  rw [IntKind.wrap_i64]
  omega
 ·rfl
def tIntOp (wr:Bool)(op:BinOp)(k:IntKind)(a b:Int):Option (Bool×TV) :=
 match op with
 | .add=>some ((tW wr k (a + b)).1,.int k (tW wr k (a + b)).2)
 | .sub=>some ((tW wr k (a - b)).1,.int k (tW wr k (a - b)).2)
 | .mul=>some ((tW wr k (a * b)).1,.int k (tW wr k (a * b)).2)
 | .quo=>some (decide (b≠0) && (tW wr k (a.tdiv b)).1,.int k (tW wr k (a.tdiv b)).2)
 | .rem=>some (decide (b≠0),.int k (a.tmod b))
 | .eql=>some (true,.bool (a == b))
 | .neq=>some (true,.bool (a != b))
 | .lss=>some (true,.bool (decide (a < b)))
 | .leq=>some (true,.bool (decide (a≤b)))
 | .gtr=>some (true,.bool (decide (a > b)))
 | .geq=>some (true,.bool (decide (a ≥ b)))
 | .and=>some (true,.int k (z32 .and k a b))
 | .or=>some (true,.int k (z32 .or k a b))
 | .xor=>some (true,.int k (z32 .xor k a b))
 | _=>none
def tShift (op:BinOp)(k:IntKind)(a b:Int):Option (Bool×TV) :=
 match op with
 | .shl=>some (!(decide (b < 0)),.int k (k25 k a b))
 | .shr=>some (!(decide (b < 0)),.int k (qm4 k a b))
 | _=>none
def tStrOp (op:BinOp)(a b:List UInt8):Option (Bool×TV) :=
 match op with
 | .add=>some (qt8 a b,.str (a ++ b))
 | .eql=>some (true,.bool (a == b))
 | .neq=>some (true,.bool (!(a == b)))
 | .lss=>some (true,.bool (Op.bytesLess a b))
 | .leq=>some (true,.bool (Op.bytesLess a b || a == b))
 | .gtr=>some (true,.bool (!(Op.bytesLess a b || a == b)))
 | .geq=>some (true,.bool (!(Op.bytesLess a b)))
 | _=>none
def tBoolOp (P:Program)(t:TypeId)(op:BinOp)(a b:Bool):Option (Bool×TV) :=
 match P.underlying t,op with
 | some .bool,.eql=>some (true,.bool (a == b))
 | some .bool,.neq=>some (true,.bool (!(a == b)))
 | _,_=>none
def tEqF (P:Program)(f:TypeId→List TV→List TV→Option Bool):List Field→List TV→List TV→Option Bool
 | [],_,_=>some true
 | g :: gs, cs, ds => if g.name ≠ "_" then
   match P.info? g.type with
   | some i=>match f g.type ((cs.drop g.offset).take i.size) ((ds.drop g.offset).take i.size) with
    | some a=>match tEqF P f gs cs ds with
     | some b=>some (a && b)
     | none=>none
    | none=>none
   | none=>none
  else tEqF P f gs cs ds
def tEqT (P:Program):Nat→TypeId→List TV→List TV→Option Bool
 | 0,_,_,_=>none
 | d + 1,t,cs,ds=>match P.underlying t with
  | some (.struct fs)=>if P.stoodInHeld t=true then none else tEqF P (tEqT P d) fs.toList cs ds
  | some .bool=>match cs,ds with
   | [a],[b]=>match asB a,asB b with
    | some a,some b=>some (a == b)
    | _,_=>none
   | _,_=>none
  | some (.int _)=>match cs,ds with
   | [.int k a],[.int k' b]=>if k=k' then some (a == b) else none
   | _,_=>none
  | some .string=>match cs,ds with
   | [.str a],[.str b]=>some (a == b)
   | _,_=>none
  | _=>none
theorem dns_sub (cs:List TV)(o n:Nat):dns ((cs.drop o).take n)=((dns cs).drop o).take n:=by simp [ql7,List.map_take,List.map_drop]
theorem v30 {P:Program}{f:TypeId→List TV→List TV→Option Bool}{f':TypeId→List AV→List AV→Option Bool}(hf:∀ t cs ds r,f t cs ds=some r→f' t (dns cs) (dns ds)=some r):∀ (gs:List Field) (cs ds:List TV) (r:Bool),tEqF P f gs cs ds=some r→aEqF P f' gs (dns cs) (dns ds)=some r
 | [],cs,ds,r,h=>h
 | g :: gs,cs,ds,r,h=>by
  simp only [tEqF] at h
  simp only [aEqF]
  split at h
  ·rename_i hn
   rw [if_pos hn]
   split at h
   ·rename_i i hi
    simp only [hi]
    split at h
    ·rename_i a ha
     have h1:=hf _ _ _ _ ha
     rw [dns_sub,dns_sub] at h1
     split at h
     ·rename_i b hb
      have h2:=v30 hf gs cs ds b hb
      rw [h1,h2]
      exact h
     ·cases h
    ·cases h
   ·cases h
  ·rename_i hn
   rw [if_neg hn]
   exact v30 hf gs cs ds r h
theorem vf1 {P:Program}:∀ (d:Nat) (t:TypeId) (cs ds:List TV) (r:Bool),tEqT P d t cs ds=some r→aEqT P d t (dns cs) (dns ds)=some r
 | 0,_,_,_,_,h=>by cases h
 | d + 1,t,cs,ds,r,h=>by
  unfold tEqT at h
  unfold aEqT
  split at h
  ·rename_i fs hu
   simp only [hu]
   split at h
   ·cases h
   ·rename_i hs
    rw [if_neg hs]
    exact v30 (fun t cs ds r h=>vf1 d t cs ds r h) _ _ _ _ h
  ·rename_i hu
   simp only [hu]
   split at h
   ·split at h
    ·rename_i ha hb
     simp only [dns,x47 ha,x47 hb,aEq1]
     exact h
    ·cases h
   ·cases h
  ·rename_i k hu
   simp only [hu]
   split at h
   ·simp only [dns,dn,aEq1]; exact h
   ·cases h
  ·rename_i hu
   simp only [hu]
   split at h
   ·simp only [dns,dn,aEq1]; exact h
   ·cases h
  ·cases h
def tBin (P:Program)(wr:Bool)(t:TypeId)(op:BinOp)(x y:TV):Option (Bool×TV) :=
 match x,y with
 | .int k a,.int k' b=>match tShift op k a b with
  | some r=>some r
  | none=>if k=k' then tIntOp wr op k a b else none
 | .str a,.str b=>tStrOp op a b
 | .nilp,.nilp=>match P.underlying t,op with
  | some (.pointer _),.eql=>some (true,.tt)
  | some (.pointer _),.neq=>some (true,.ff)
  | _,_=>none
 | .ref _ _,.nilp=>match P.underlying t,op with
  | some (.pointer _),.eql=>some (true,.ff)
  | some (.pointer _),.neq=>some (true,.tt)
  | _,_=>none
 | .agg cs,.agg ds=>match P.underlying t with
  | some (.struct _)=>if P.eqGuardType P.depth t=false then
    match op with
    | .eql=>match tEqT P 20 t cs ds with
     | some b=>some (true,.bool b)
     | none=>none
    | .neq=>match tEqT P 20 t cs ds with
     | some b=>some (true,.bool (!b))
     | none=>none
    | _=>none
   else none
  | _=>none
 | x,y=>match asB x,asB y with
  | some a,some b=>tBoolOp P t op a b
  | _,_=>none
theorem tBin_spec {P:Program}{wr:Bool}{t:TypeId}{op:BinOp}{x y v:TV}{g:Bool}(h:tBin P wr t op x y=some (g,v))(hg:gdP g):aBin P t op (dn x) (dn y)=some (dn v):=by
 unfold tBin at h
 split at h
 ·split at h
  ·rename_i r hsh
   cases h
   unfold tShift at hsh
   split at hsh <;> cases hsh <;> simp only [gdP,Bool.not_eq_true',decide_eq_false_iff_not] at hg <;> simp [dn,aBin,kl5,hg]
  rename_i hsh
  have hsh':∀ k' a' b',kl5 op k' a' b'=none:=by
   intro k' a' b'
   cases op <;> first
    | rfl
    | cases hsh
  split at h
  ·rename_i hk
   subst hk
   simp only [dn,aBin,hsh',if_true]
   unfold tIntOp at h
   split at h <;> cases h <;> simp only [aIntOp,dn] <;> simp only [gdP,decide_eq_true_eq,Bool.and_eq_true] at hg <;> first
    | (rw [u45 hg]; done)
    | (rw [u45 hg.2]; simp [hg.1]; done)
    | simp [hg]
  ·cases h
 ·simp only [dn,aBin]
  unfold tStrOp at h
  split at h <;> cases h <;> simp only [aStrOp,dn] <;> simp only [gdP,yu6] at hg <;> simp [hg]
 ·simp only [dn,aBin]
  split at h <;> cases h <;> simp [*,dn]
 ·simp only [dn,aBin]
  split at h <;> cases h <;> simp [*,dn]
 ·simp only [dn,aBin]
  split at h
  ·rename_i fs hu
   simp only [hu]
   split at h
   ·rename_i hgd
    rw [if_pos hgd]
    split at h
    ·split at h
     ·rename_i b hb; cases h; rw [vf1 _ _ _ _ _ hb]; rfl
     ·cases h
    ·split at h
     ·rename_i b hb; cases h; rw [vf1 _ _ _ _ _ hb]; rfl
     ·cases h
    ·cases h
   ·cases h
  ·cases h
 ·split at h
  ·rename_i a b ha hb
   rw [x47 ha,x47 hb]
   simp only [aBin]
   unfold tBoolOp at h
   split at h <;> cases h <;> simp [*,dn]
  ·cases h
def tUn (wr:Bool)(op:UnOp)(x:TV):Option (Bool×TV) :=
 match op,x with
 | .neg,.int k n=>some ((tW wr k (0 - n)).1,.int k (tW wr k (0 - n)).2)
 | .not,.tt=>some (true,.ff)
 | .not,.ff=>some (true,.tt)
 | .not,.bool b=>some (true,.bool (!b))
 | _,_=>none
theorem tUn_spec {wr:Bool}{op:UnOp}{x v:TV}{g:Bool}(h:tUn wr op x=some (g,v))(hg:gdP g):aUn op (dn x)=some (dn v):=by
 unfold tUn at h
 split at h <;> cases h <;> first
  | rfl
  | (simp only [dn,aUn]; rw [u45 hg])
def qx8 (ns:List Int):List UInt8:=ns.map fun n=>UInt8.ofNat n.toNat
theorem kg9 :∀ (xs:List (El (.int .u8))),(xs.flatMap (q47 (.int .u8))).mapM y48=some (qx8 xs)
 | []=>rfl
 | x :: xs=>by
  have ih:=kg9 xs
  show (AV.int .u8 x :: xs.flatMap (q47 (.int .u8))).mapM y48=_
  rw [List.mapM_cons,ih]
  rfl
def tConv (P:Program)(wr:Bool)(src dst:TypeId)(x:TV):Option (Bool×TV) :=
 match x with
 | .str b=>match P.underlying src,P.underlying dst with
  | some .string,some .string=>some (true,.str b)
  | _,_=>none
 | .tl (.int .u8) xs _=>match P.underlying src,P.underlying dst with
  | some (.slice e),some .string=>match P.underlying e with
   | some (.int .u8)=>some (true,.str (qx8 xs))
   | _=>none
  | _,_=>none
 | .int _ n=>match P.underlying src,P.underlying dst with
  | some _,some (.int k)=>some ((tW wr k n).1,.int k (tW wr k n).2)
  | _,_=>none
 | _=>none
theorem kx1 {P:Program}{wr:Bool}{src dst:TypeId}{x v:TV}{g:Bool}(h:tConv P wr src dst x=some (g,v))(hg:gdP g):kd3 P src dst (dn x)=some (dn v):=by
 unfold tConv at h
 split at h
 ·split at h
  ·cases h; simp only [dn,kd3, *]
  ·cases h
 ·rename_i xs gt
  split at h
  ·rename_i e h1 h2
   split at h
   ·rename_i h3
    cases h
    simp only [dn,kd3,h1,h2,h3]
    have hl:(xs.flatMap (q47 (.int .u8))).length=xs.length:=by
     have:=qy2 (t:=.int .u8) xs
     rw [this]
     exact Nat.mul_one _
    refine (if_pos hl).trans ?_
    rw [kg9 xs]
    rfl
   ·cases h
  ·cases h
 ·split at h
  ·cases h; simp only [dn,kd3, *]; rw [u45 hg]
  ·cases h
 ·cases h
def kw8 (P:Program)(t:TypeId)(cs:List TV)(o:Nat):Option TV :=
 match jd3 P t with
 | some (some n)=>if o + n≤cs.length then some (.agg (((cs.drop o).take n).map qp1)) else none
 | some none=>cs[o]?
 | none=>none
theorem y70 {P:Program}{t:TypeId}{cs:List TV}{o:Nat}{v:TV}(h:kw8 P t cs o=some v):xi8 P t (dns cs) o=some (dn v):=by
 unfold kw8 at h
 unfold xi8
 split at h
 ·rename_i n hn
  simp only [hn]
  split at h
  ·rename_i hl
   cases h
   rw [qb6,if_pos hl]
   simp only [dn,zx5,wi6,wh5]
  ·cases h
 ·rename_i hn
  simp only [hn]
  rw [uh1,h]
  rfl
 ·cases h
theorem xi7 {t:Ty}(xs:List (El t))(i:Nat)(h:i < xs.length):∃ a c,xs.flatMap (q47 t)=a ++ c∧a.length=i * t.size∧c.take t.size=q47 t (xs.getD i (dflt t))∧t.size≤c.length:=by
 refine ⟨(xs.take i).flatMap (q47 t),(xs.drop i).flatMap (q47 t),?_,?_,?_,?_⟩
 ·rw [← List.flatMap_append,List.take_append_drop]
 ·rw [qy2,List.length_take,Nat.min_eq_left (Nat.le_of_lt h)]
 ·rw [List.drop_eq_getElem_cons h,List.flatMap_cons,List.take_append_of_le_length (by rw [qe2]; exact Nat.le_refl _),List.take_of_length_le (by rw [qe2]; exact Nat.le_refl _)]
  simp [h]
 ·rw [qy2,List.length_drop]
  have:1≤xs.length - i:=by omega
  have:=Nat.mul_le_mul_right t.size this
  omega
theorem kb7 {P:Program}{t:TypeId}{a c:List AV}{n o:Nat}{v:AV}(hn:n≤c.length)(h:xi8 P t (c.take n) o=some v):xi8 P t (a ++ c) (a.length + o)=some v:=by
 unfold xi8 at h ⊢
 split at h
 ·rename_i m hm
  split at h
  ·rename_i hl
   cases h
   rw [List.length_take] at hl
   rw [List.length_append,if_pos (by omega)]
   congr 2
   rw [List.drop_append,List.drop_of_length_le (by omega),List.nil_append,Nat.add_sub_cancel_left,List.drop_take,List.take_take,Nat.min_eq_left (by omega)]
  ·cases h
 ·rename_i hm
  rw [List.getElem?_append_right (by omega),Nat.add_sub_cancel_left]
  rw [List.getElem?_take] at h
  split at h
  ·exact h
  ·cases h
 ·cases h
def ka2 (P:Program)(s:List TOb)(t:TypeId)(x:TV):Option (Bool×TV) :=
 match x with
 | .ref i k=>match s[i]? with
  | some (.cells cs _ l)=>if l=true then (kw8 P t cs k).map fun v=>(true,v) else none
  | _=>none
 | .ep cs k=>(kw8 P t cs k).map fun v=>(true,qp1 v)
 | .ap i ix sz o=>match s[i]? with
  | some (.tarr ty xs _ l)=>if l=true∧sz=ty.size then (kw8 P t (u25 ty (xs.getD ix.toNat (dflt ty))) o).map fun v=>(decide (0≤ix∧ix < xs.length),v) else none
  | _=>none
 | _=>none
theorem ux8 {P:Program}{s:List TOb}{t:TypeId}{x v:TV}{g:Bool}(h:ka2 P s t x=some (g,v))(hg:gdP g):xf9 P (dnS s) t (dn x)=some (dn v):=by
 unfold ka2 at h
 split at h
 ·rename_i i k
  split at h
  ·rename_i cs t' l hs
   split at h
   ·rename_i hl
    obtain ⟨u,h1,h2⟩:=q50 h
    cases h2
    simp only [dn,xf9,qi6,hs,Option.map_some,dnO,hl,if_true]
    exact y70 h1
   ·cases h
  ·cases h
 ·rename_i cs k
  obtain ⟨u,h1,h2⟩:=q50 h
  cases h2
  simp only [dn,xf9]
  rw [y70 h1]
  simp [qn7]
 ·rename_i i ix sz o
  split at h
  ·rename_i ty xs t' l hs
   split at h
   ·rename_i hc
    obtain ⟨hl,hsz⟩:=hc
    obtain ⟨u,h1,h2⟩:=q50 h
    cases h2
    simp only [gdP,decide_eq_true_eq] at hg
    simp only [dn,xf9,qi6,hs,Option.map_some,dnO,hl,if_true]
    obtain ⟨a,c,e1,e2,e3,e4⟩:=xi7 xs ix.toNat (by omega)
    have h3:=y70 h1
    rw [y74,← e3] at h3
    rw [e1,hsz,← e2]
    exact kb7 e4 h3
   ·cases h
  ·cases h
 ·cases h
def tNil (x:TV):Option (Bool×TV):=match x with
 | .ref _ _ | .ep _ _ | .ap _ _ _ _=>some (true,x)
 | _=>none
def xa4 (P:Program)(t:TypeId)(x:TV)(f:Nat):Option (Bool×TV) :=
 match x with
 | .ref i k=>(jq1 P t f).map fun r=>(true,.ref i (k + r.1))
 | .ep cs k=>(jq1 P t f).map fun r=>(true,.ep cs (k + r.1))
 | .ap i ix sz k=>(jq1 P t f).map fun r=>(true,.ap i ix sz (k + r.1))
 | _=>none
theorem v87 {P:Program}{t:TypeId}{x v:TV}{f:Nat}{g:Bool}(h:xa4 P t x f=some (g,v)):zg4 P t (dn x) f=some (dn v):=by
 unfold xa4 at h
 split at h
 ·obtain ⟨r,h1,h2⟩:=q50 h; cases h2; simp [dn,zg4,h1]
 ·obtain ⟨r,h1,h2⟩:=q50 h; cases h2; simp [dn,zg4,h1]
 ·obtain ⟨r,h1,h2⟩:=q50 h; cases h2; simp [dn,zg4,h1,Nat.add_assoc]
 ·cases h
def y71 (P:Program)(t:TypeId)(x y:TV):Option (Bool×TV) :=
 match x,y with
 | .tl ty xs g,.int _ ix=>match wl7 P t with
  | some (_,size)=>if size=ty.size then some (decide (0≤ix∧ix < xs.length),.ep (u25 ty (xs.getD ix.toNat (dflt ty))) 0) else none
  | none=>none
 | .ll cs n g,.int _ ix=>match wl7 P t with
  | some (_,size)=>if 0≤ix∧ix < n∧cs.isEmpty=false then some (true,.ep cs (ix.toNat * size)) else none
  | none=>none
 | .arr i n,.int _ ix=>match wl7 P t with
  | some (_,size)=>some (decide (0≤ix∧ix < n),.ap i ix size 0)
  | none=>none
 | _,_=>none
theorem vk1 {P:Program}{t:TypeId}{x y v:TV}{g:Bool}(h:y71 P t x y=some (g,v))(hg:gdP g):∃ a,zf8 P t (dn x) (dn y)=some a∧Wk a (dn v):=by
 unfold y71 at h
 split at h
 ·rename_i ty xs gt kd ix
  split at h
  ·rename_i e size he
   split at h
   ·rename_i hsz
    cases h
    simp only [gdP,decide_eq_true_eq] at hg
    have hlt:ix.toNat < xs.length:=by omega
    obtain ⟨a,c,e1,e2,e3,e4⟩:=xi7 xs ix.toNat hlt
    obtain ⟨_,i',_,_,hpos⟩:=qx2 he
    refine ⟨.eptr (xs.flatMap (q47 ty)) (ix.toNat * size),?_,?_⟩
    ·simp only [dn,zf8,he]
     have hl:0 < (xs.flatMap (q47 ty)).length:=by
      rw [qy2]; exact Nat.mul_pos (by omega) (by omega)
     have hne:(xs.flatMap (q47 ty)).isEmpty=false:=by
      cases hq:xs.flatMap (q47 ty) with
      | nil=>rw [hq] at hl; simp at hl
      | cons=>rfl
     rw [if_pos ⟨hg.1,hg.2,hne⟩]
    ·simp only [dn]
     rw [hsz,← e2,y74,← e3]
     have:=Wk.eptr (cs:=xs.flatMap (q47 ty)) (a:=a) (c:=c) (n:=ty.size) (o:=0) (by rw [List.append_assoc,List.take_append_drop]; exact e1) e4
     simpa using this
   ·cases h
  ·cases h
 ·rename_i cs n gt kd ix
  split at h
  ·rename_i e size he
   split at h
   ·rename_i hc
    cases h
    refine ⟨_,?_,.refl _⟩
    simp only [dn,zf8,he]
    have hne:(dns cs).isEmpty=false:=by
     cases cs with
     | nil=>simp at hc
     | cons=>rfl
    rw [if_pos ⟨hc.1,hc.2.1,hne⟩]
   ·cases h
  ·cases h
 ·rename_i i n kd ix
  split at h
  ·rename_i e size he
   cases h
   simp only [gdP,decide_eq_true_eq] at hg
   refine ⟨_,?_,.refl _⟩
   simp only [dn,zf8,he]
   rw [if_pos hg]
   rfl
  ·cases h
 ·cases h
def tIndex (P:Program)(t:TypeId)(x y:TV):Option (Bool×TV) :=
 match x,y with
 | .str l,.int _ ix=>match P.underlying t with
  | some .string=>some (decide (0≤ix∧ix < l.length),.int .u8 ((l.getD ix.toNat 0).toNat:Int))
  | _=>none
 | _,_=>none
theorem kc3 {P:Program}{t:TypeId}{x y v:TV}{g:Bool}(h:tIndex P t x y=some (g,v))(hg:gdP g):kl6 P t (dn x) (dn y)=some (dn v):=by
 unfold tIndex at h
 split at h
 ·rename_i l kd ix
  split at h
  ·rename_i hu
   cases h
   simp only [gdP,decide_eq_true_eq] at hg
   have hlt:ix.toNat < l.length:=by omega
   simp only [dn,kl6,hu]
   rw [if_pos hg.1]
   simp [hlt]
  ·cases h
 ·cases h
def asI :TV→Option Int
 | .int _ n=>some n
 | _=>none
def xh5 (n:Nat)(lo hi:Option TV):Option Bool :=
 match lo,hi with
 | none,none=>some true
 | some a,none=>(asI a).map fun (a:Int)=>decide (0≤a∧a≤(n:Int))
 | none,some b=>(asI b).map fun (b:Int)=>decide (0≤b∧b≤(n:Int))
 | some a,some b=>match asI a,asI b with
  | some a,some b=>some (decide (0≤a∧a≤b∧b≤(n:Int)))
  | _,_=>none
def k44 {α:Type}(xs:List α)(lo hi:Option TV):List α :=
 let ys:=match hi with
  | some b=>match asI b with
   | some b=>xs.take b.toNat
   | none=>xs
  | none=>xs
 match lo with
 | some a=>match asI a with
  | some a=>ys.drop a.toNat
  | none=>ys
 | none=>ys
def tSlice (P:Program)(t:TypeId)(x:TV)(lo hi:Option TV):Option (Bool×TV) :=
 match x with
 | .tl ty xs g=>match wl7 P t with
  | some (_,size)=>if size=ty.size then (xh5 xs.length lo hi).map fun p=>(p,.tl ty (k44 xs lo hi) .unk) else none
  | none=>none
 | .str b=>match P.underlying t with
  | some .string=>(xh5 b.length lo hi).map fun p=>(p,.str (k44 b lo hi))
  | _=>none
 | _=>none
theorem xn3 {α:Type}{fr:List TV}{lo hi:Option Operand}(xs:List α){g:Bool}(h:xh5 xs.length (lo.map (q88 fr)) (hi.map (q88 fr))=some g)(hg:gdP g):
  ∃ l h',qw4 (dns fr) 0 lo=some l∧qw4 (dns fr) xs.length hi=some h'∧l≤h'∧h'≤xs.length∧k44 xs (lo.map (q88 fr)) (hi.map (q88 fr))=(xs.take h').drop l:=by
 have key:∀ (x:Operand) (n:Int) (d:Nat),asI (q88 fr x)=some n→0≤n→qw4 (dns fr) d (some x)=some n.toNat:=by
  intro x n d hx h0
  unfold asI at hx
  split at hx
  ·rename_i k m hm
   cases hx
   simp only [qw4,← q59,hm,dn]
   rw [if_pos h0]
  ·cases hx
 cases lo with
 | none =>
  cases hi with
  | none =>
   refine ⟨0,xs.length,rfl,rfl,by omega,by omega,?_⟩
   simp [k44]
  | some y =>
   simp only [Option.map_none,Option.map_some,xh5] at h
   obtain ⟨b,h1,rfl⟩:=q50 h
   simp only [gdP,decide_eq_true_eq] at hg
   refine ⟨0,b.toNat,rfl,key y b _ h1 hg.1,by omega,by omega,?_⟩
   simp [k44,h1]
 | some x =>
  cases hi with
  | none =>
   simp only [Option.map_none,Option.map_some,xh5] at h
   obtain ⟨a,h1,rfl⟩:=q50 h
   simp only [gdP,decide_eq_true_eq] at hg
   refine ⟨a.toNat,xs.length,key x a _ h1 hg.1,rfl,by omega,by omega,?_⟩
   simp [k44,h1]
  | some y =>
   simp only [Option.map_some,xh5] at h
   split at h
   ·rename_i a b h1 h2
    cases h
    simp only [gdP,decide_eq_true_eq] at hg
    refine ⟨a.toNat,b.toNat,key x a _ h1 hg.1,key y b _ h2 (by omega),by omega,by omega,?_⟩
    simp [k44,h1,h2]
   ·cases h
theorem ux9 {t:Ty}(xs:List (El t))(h:Nat):(xs.flatMap (q47 t)).take (h * t.size)=(xs.take h).flatMap (q47 t):=by
 induction xs generalizing h with
 | nil=>simp
 | cons x xs ih =>
  cases h with
  | zero=>simp
  | succ h =>
   rw [List.flatMap_cons,List.take_succ_cons,List.flatMap_cons,Nat.succ_mul,Nat.add_comm (h * t.size)]
   rw [List.take_append,List.take_of_length_le (by rw [qe2]; omega),qe2,Nat.add_sub_cancel_left,ih]
theorem uy8 {t:Ty}(xs:List (El t))(h:Nat):(xs.flatMap (q47 t)).drop (h * t.size)=(xs.drop h).flatMap (q47 t):=by
 induction xs generalizing h with
 | nil=>simp
 | cons x xs ih =>
  cases h with
  | zero=>simp
  | succ h =>
   rw [List.flatMap_cons,List.drop_succ_cons,Nat.succ_mul,Nat.add_comm (h * t.size)]
   rw [List.drop_append,List.drop_of_length_le (by rw [qe2]; omega),qe2,Nat.add_sub_cancel_left,ih,List.nil_append]
theorem k69 {P:Program}{fr:List TV}{t:TypeId}{x:Operand}{lo hi:Option Operand}{v:TV}{g:Bool}(h:tSlice P t (q88 fr x) (lo.map (q88 fr)) (hi.map (q88 fr))=some (g,v))(hg:gdP g):∃ a,vv8 P (dns fr) t x lo hi=some a∧WkM a (dn v):=by
 unfold tSlice at h
 split at h
 ·rename_i ty xs gt hx
  split at h
  ·rename_i e size he
   split at h
   ·rename_i hsz
    obtain ⟨p,h1,h2⟩:=q50 h
    cases h2
    obtain ⟨l,h',k1,k2,k3,k4,k5⟩:=xn3 xs h1 hg
    unfold vv8
    rw [← q59,hx]
    simp only [dn,he,k1,k2]
    rw [if_pos ⟨k3,k4⟩]
    refine ⟨_,rfl,.of ?_ rfl⟩
    subst hsz
    rw [ux9,uy8,k5]
    have e:h' - l=((xs.take h').drop l).length:=by simp; omega
    rw [e]
    exact .unk (.refl _)
   ·cases h
  ·cases h
 ·rename_i b hx
  split at h
  ·rename_i hu
   obtain ⟨p,h1,h2⟩:=q50 h
   cases h2
   obtain ⟨l,h',k1,k2,k3,k4,k5⟩:=xn3 b h1 hg
   unfold vv8
   rw [← q59,hx]
   simp only [dn,hu,k1,k2]
   rw [if_pos ⟨k3,k4⟩]
   exact ⟨_,rfl,by rw [k5]; exact .refl _⟩
  ·cases h
 ·cases h
def tLen (P:Program)(t:TypeId)(x:TV):Option (Bool×TV) :=
 match x with
 | .tl _ xs _=>match P.underlying t with
  | some (.slice _)=>some (true,.int .i64 xs.length)
  | _=>none
 | .ll _ n _=>match P.underlying t with
  | some (.slice _)=>some (true,.int .i64 n)
  | _=>none
 | .arr _ n=>match P.underlying t with
  | some (.slice _)=>some (true,.int .i64 n)
  | _=>none
 | .str b=>match P.underlying t with
  | some .string=>some (true,.int .i64 b.length)
  | _=>none
 | _=>none
theorem tLen_spec {P:Program}{t:TypeId}{x v:TV}{g:Bool}(h:tLen P t x=some (g,v)):aLen P t (dn x)=some (dn v):=by
 unfold tLen at h
 split at h <;> first | (split at h <;> cases h <;> simp only [dn,aLen, *]) | cases h
def k66 :TV→Option (List TV)
 | .agg cs=>some (cs.map qp1)
 | .undef | .tup _=>none
 | .ap _ _ _ _=>none
 | a=>some [qp1 a]
theorem k58 (a:AV):a.plain.plain=a.plain:=by
 cases a <;> try rfl
 rename_i cs n g
 cases g <;> rfl
theorem uk1 {v:TV}{cs:List TV}(h:k66 v=some cs):(zq8 (dn v)).map (fun l=>l.map AV.plain)=some (dns cs):=by
 unfold k66 at h
 split at h
 ·cases h
  simp only [dn,zq8,Option.map_some,zx5,List.map_map]
  congr 1
  apply List.map_congr_left
  intro a _
  exact k58 a
 ·cases h
 ·cases h
 ·cases h
 ·rename_i h1 h2 h3 h4
  cases h
  cases v <;> first
   | exact absurd rfl (h1 _)
   | exact absurd rfl h2
   | exact absurd rfl (h3 _)
   | exact absurd rfl (h4 _ _ _ _)
   | (simp only [dns,qn7]; rfl)
def ve7 (cs:List TV)(k:Nat)(new:List TV):List TV:=cs.take k ++ new ++ cs.drop (k + new.length)
theorem yi9 (cs:List TV)(k:Nat)(new:List TV):dns (ve7 cs k new)=wg1 (dns cs) k (dns new):=by
 simp only [ve7,wg1,jz1,wi6,wh5,qb6]
def ko5 (place:Nat→Option (Nat×Nat))(cells:List TV):List (Nat×TV)→Option (List TV)
 | []=>some cells
 | (i,v) :: rest =>
  match place i with
  | none=>none
  | some (off,size)=>match k66 v with
   | none=>none
   | some vs=>if vs.length≠size∨cells.length < off + vs.length then none else ko5 place (ve7 cells off vs) rest
theorem xf1 (place:Nat→Option (Nat×Nat)):∀ (parts:List (Nat×TV)) (cells cs:List TV),ko5 place cells parts=some cs →
  ∃ ps,vh2 (parts.map fun p=>(p.1,dn p.2))=some ps∧vp2 place (dns cells) ps=some (dns cs)
 | [],cells,cs,h=>by simp only [ko5,Option.some.injEq] at h; subst h; exact ⟨[],by simp [vh2],rfl⟩
 | (i,v) :: rest,cells,cs,h=>by
  simp only [ko5] at h
  split at h
  ·cases h
  ·rename_i off size hp
   split at h
   ·cases h
   ·rename_i vs hv
    split at h
    ·cases h
    ·rename_i hc
     obtain ⟨ps,h1,h2⟩:=xf1 place rest _ cs h
     have h3:=uk1 hv
     cases h4:zq8 (dn v) with
     | none=>rw [h4] at h3; cases h3
     | some l =>
      rw [h4] at h3
      simp only [Option.map_some,Option.some.injEq] at h3
      refine ⟨(i,dns vs) :: ps,?_,?_⟩
      ·unfold vh2 at h1 ⊢
       simp only [List.map_cons,List.mapM_cons]
       rw [h4,h1]
       simp [h3]
      ·simp only [vp2,hp]
       rw [qb6,qb6,if_neg hc,← yi9]
       exact h2
def vy9 (fr:List TV)(parts:Array (Nat×Operand)):List (Nat×TV):=parts.toList.map fun p=>(p.1,q88 fr p.2)
theorem vi3 (fr:List TV)(parts:Array (Nat×Operand)):(vy9 fr parts).map (fun p=>(p.1,dn p.2))=z04 (dns fr) parts:=by
 simp only [vy9,z04,List.map_map]
 apply List.map_congr_left
 intro p _
 simp [q59]
theorem yx6 (l:List Value):dns (l.map vq0)=l.map vn2:=by
 rw [ql7,List.map_map]
 apply List.map_congr_left
 intro a _
 exact u89 a
def tBuild (P:Program)(t:TypeId)(parts:List (Nat×TV)):Option (Bool×TV) :=
 match P.underlying t,u00 P t with
 | some (.struct fs),some z =>
  match aPlaces P fs with
  | some pl=>(ko5 (pl[·]?) (z.cells.toList.map vq0) parts).map fun cs=>(true,.agg cs)
  | none=>none
 | _,_=>none
theorem kc5 {P:Program}{t:TypeId}{fr:List TV}{parts:Array (Nat×Operand)}{v:TV}{g:Bool}(h:tBuild P t (vy9 fr parts)=some (g,v)):uk2 P t (z04 (dns fr) parts)=some (dn v):=by
 unfold tBuild at h
 unfold uk2
 split at h
 ·rename_i fs z h1 h2
  simp only [h1,h2]
  split at h
  ·rename_i pl h3
   obtain ⟨cs,h4,h5⟩:=q50 h
   cases h5
   obtain ⟨ps,h6,h7⟩:=xf1 _ _ _ _ h4
   rw [vi3] at h6
   rw [yx6] at h7
   simp only [h3,h6]
   rw [h7]
   rfl
  ·cases h
 ·cases h
def tyOf (P:Program):Nat→TypeId→Option Ty
 | 0,_=>none
 | n + 1,t=>match P.underlying t with
  | some (.int k)=>some (.int k)
  | some .bool=>some .bool
  | some .string=>some .str
  | some (.slice e)=>(tyOf P n e).map .list
  | some (.struct fs)=>(fs.toList.mapM fun f=>tyOf P n f.type).map .st
  | some (.array m e)=>(tyOf P n e).map fun y=>.st (List.replicate m y)
  | _=>none
def typed (P:Program)(e:TypeId)(cs:List TV)(len:Nat):TV :=
 match tyOf P 10 e with
 | some ty=>match decN (dec ty) len cs with
  | some xs=>.tl ty xs .full
  | none=>.ll cs len .full
 | none=>.ll cs len .full
theorem typed_wk (P:Program)(e:TypeId)(cs:List TV)(len:Nat):WkM (.list (dns cs) len .full) (dn (typed P e cs len)):=by
 unfold typed
 split
 ·rename_i ty _
  split
  ·rename_i xs h
   obtain ⟨h1,h2⟩:=vl0 (dec ty) (fun cs x r h=>zf7 ty cs x r h) _ _ _ h
   refine .of ?_ rfl
   simp only [dn]
   rw [h2]
   exact .list h1 fun _=>rfl
  ·exact .refl _
 ·exact .refl _
def yr3 (P:Program)(t:TypeId)(len:Nat)(parts:List (Nat×TV)):Option (Bool×TV) :=
 match wl7 P t with
 | some (e,size) =>
  match u00 P e with
  | some z =>
   if len * size≤16777216∧0 < z.cells.size then
    (ko5 (fun i=>some (i * size,size)) ((xy1 z (len * size)).toList.map vq0) parts).map fun cs=>(true,typed P e cs len)
   else none
  | none=>none
 | none=>none
theorem xx4 {P:Program}{t:TypeId}{len:Nat}{fr:List TV}{parts:Array (Nat×Operand)}{v:TV}{g:Bool}(h:yr3 P t len (vy9 fr parts)=some (g,v)):∃ a,zm0 P t len (z04 (dns fr) parts)=some a∧WkM a (dn v):=by
 unfold yr3 at h
 unfold zm0
 split at h
 ·rename_i e size h1
  split at h
  ·rename_i z h2
   split at h
   ·rename_i hc
    obtain ⟨cs,h4,h5⟩:=q50 h
    cases h5
    obtain ⟨ps,h6,h7⟩:=xf1 _ _ _ _ h4
    rw [vi3] at h6
    rw [yx6] at h7
    simp only [h1,h2,h6]
    rw [if_pos hc,h7]
    exact ⟨_,rfl,typed_wk P e cs len⟩
   ·cases h
  ·cases h
 ·cases h
def v74 (P:Program)(wr:Bool)(fr:List TV)(s:List TOb)(op:Op):Option (Bool×TV) :=
 match op with
 | .move x=>some (true,q88 fr x)
 | .assign x=>some (true,q88 fr x)
 | .pick c x y=>match q88 fr c with
  | .tt=>some (true,q88 fr x)
  | .ff=>some (true,q88 fr y)
  | _=>none
 | .build t parts=>tBuild P t (vy9 fr parts)
 | .buildSlice t n parts=>yr3 P t n (vy9 fr parts)
 | .load t x=>ka2 P s t (q88 fr x)
 | .nilCheck x=>tNil (q88 fr x)
 | .binOp op t x y _=>tBin P wr t op (q88 fr x) (q88 fr y)
 | .unOp op _ x=>tUn wr op (q88 fr x)
 | .convert src dst x=>tConv P wr src dst (q88 fr x)
 | .makeFunc fn first captured=>if first.size=0 then some (true,.func fn (captured.toList.map fun x=>qp1 (q88 fr x))) else none
 | .slice t x lo hi none=>tSlice P t (q88 fr x) (lo.map (q88 fr)) (hi.map (q88 fr))
 | .fieldAddr t x f=>xa4 P t (q88 fr x) f
 | .indexAddr t x y=>y71 P t (q88 fr x) (q88 fr y)
 | .index t x y=>tIndex P t (q88 fr x) (q88 fr y)
 | .extract x k=>match q88 fr x with
  | .tup vs=>(vs[k]?).map fun v=>(true,qp1 v)
  | _=>none
 | .call c=>match c.callee with
  | .builtin .len=>match c.args.toList,c.argTypes.toList with
   | [x],[t]=>tLen P t (q88 fr x)
   | _,_=>none
  | .builtin .max=>match c.args.toList with
   | [x,y]=>match q88 fr x,q88 fr y with
    | .int k a,.int _ b=>some (true,.int k (vn1 a b))
    | _,_=>none
   | _=>none
  | .builtin .min=>match c.args.toList with
   | [x,y]=>match q88 fr x,q88 fr y with
    | .int k a,.int _ b=>some (true,.int k (iMin a b))
    | _,_=>none
   | _=>none
  | _=>none
 | _=>none
theorem u13 {P:Program}{wr:Bool}{fr:List TV}{s:List TOb}{o:Oper}{g:Bool}{v:TV}(h:v74 P wr fr s o.op=some (g,v))(hg:gdP g):∃ a,qn6 P (dns fr) (dnS s) o=some a∧WkM a (dn v):=by
 obtain ⟨dst,op,type,pos,after,guard⟩:=o
 cases op <;> simp only [v74] at h <;> try (cases h; done)
 case move x=>cases h; exact ⟨_,rfl,by simp only [q59]; exact .refl _⟩
 case assign x=>cases h; exact ⟨_,rfl,by simp only [q59]; exact .refl _⟩
 case pick c x y =>
  split at h
  ·rename_i hc; cases h; simp only [qn6,← q59,hc,dn]; exact ⟨_,rfl,.refl _⟩
  ·rename_i hc; cases h; simp only [qn6,← q59,hc,dn]; exact ⟨_,rfl,.refl _⟩
  ·cases h
 case build t parts=>simp only [qn6]; exact ⟨_,kc5 h,.refl _⟩
 case buildSlice t n parts=>simp only [qn6]; exact xx4 h
 case load t x=>simp only [qn6,← q59]; exact ⟨_,ux8 h hg,.refl _⟩
 case nilCheck x =>
  simp only [qn6,← q59]
  unfold tNil at h
  split at h <;> cases h <;> simp only [*,dn] <;> exact ⟨_,rfl,.refl _⟩
 case binOp op t x y ty=>simp only [qn6,← q59]; exact ⟨_,tBin_spec h hg,.refl _⟩
 case unOp op t x=>simp only [qn6,← q59]; exact ⟨_,tUn_spec h hg,.refl _⟩
 case convert src dst x=>simp only [qn6,← q59]; exact ⟨_,kx1 h hg,.refl _⟩
 case makeFunc fn first captured =>
  split at h
  ·rename_i h0
   cases h
   simp only [qn6]
   rw [if_pos h0]
   refine ⟨_,rfl,?_⟩
   simp only [dn,ql7,List.map_map]
   have:(captured.toList.map fun x=>(q44 (dns fr) x).plain)=captured.toList.map (dn ∘ fun x=>qp1 (q88 fr x)):=by
    apply List.map_congr_left
    intro x _
    simp [qn7,q59]
   rw [ql7] at this
   rw [this]
   exact .refl _
  ·cases h
 case slice t x lo hi mx =>
  cases mx with
  | none=>simp only [qn6]; exact k69 h hg
  | some m=>simp at h
 case fieldAddr t x f=>simp only [qn6,← q59]; exact ⟨_,v87 h,.refl _⟩
 case indexAddr t x y =>
  simp only [qn6,← q59]
  obtain ⟨a,h1,h2⟩:=vk1 h hg
  refine ⟨a,h1,.of h2 ?_⟩
  unfold y71 at h
  split at h
  ·split at h
   ·split at h
    ·cases h; rfl
    ·cases h
   ·cases h
  ·split at h
   ·split at h
    ·cases h; rfl
    ·cases h
   ·cases h
  ·split at h
   ·cases h; rfl
   ·cases h
  ·cases h
 case index t x y=>simp only [qn6,← q59]; exact ⟨_,kc3 h hg,.refl _⟩
 case extract x k =>
  split at h
  ·rename_i vs hx
   obtain ⟨u,h1,h2⟩:=q50 h
   cases h2
   simp only [qn6,← q59,hx,dn]
   rw [uh1,h1]
   exact ⟨_,rfl,by rw [qn7]; exact .refl _⟩
  ·cases h
 case call c =>
  split at h
  ·rename_i hc
   split at h
   ·rename_i x t ha ht
    simp only [qn6,hc,ha,ht,← q59]
    exact ⟨_,tLen_spec h,.refl _⟩
   ·cases h
  ·rename_i hc
   split at h
   ·rename_i x y ha
    split at h
    ·rename_i hx hy
     cases h
     simp only [qn6,hc,ha,← q59,hx,hy,dn]
     exact ⟨_,rfl,.refl _⟩
    ·cases h
   ·cases h
  ·rename_i hc
   split at h
   ·rename_i x y ha
    split at h
    ·rename_i hx hy
     cases h
     simp only [qn6,hc,ha,← q59,hx,hy,dn]
     exact ⟨_,rfl,.refl _⟩
    ·cases h
   ·cases h
  ·cases h
def WkF (fr fr':List AV):Prop:=fr'.length=fr.length∧∀ t,WkM (fr.getD t .undef) (fr'.getD t .undef)
def WkO (o o':Ob):Prop:=o'.live=true→o'.t=o.t∧o.live=true∧(o'.cs.length=o.cs.length∧∀ (k:Nat) (a a':AV),o.cs[k]?=some a→o'.cs[k]?=some a'→WkM a a')
def WkS (s s':List Ob):Prop:=s'.length=s.length∧∀ (i:Nat) (o o':Ob),s[i]?=some o→s'[i]?=some o'→WkO o o'
theorem WkF.refl (fr:List AV):WkF fr fr:=⟨rfl,fun _=>.refl _⟩
theorem WkO.refl (o:Ob):WkO o o:=fun hl=>⟨rfl,hl,⟨rfl,fun k a a' h h'=>by rw [h] at h'; cases h'; exact .refl _⟩⟩
theorem WkS.refl (s:List Ob):WkS s s:=⟨rfl,fun i o o' h h'=>by rw [h] at h'; cases h'; exact .refl _⟩
theorem FR.weaken {M:Nat→Prop}{G:Gh}{w:World}{fr fr':List AV}{a:Act}(h:FR M G w fr a)(k:WkF fr fr'):FR M G w fr' a :=
 ⟨h.defers,h.size.trans k.1.symm,fun t=>k.2 t M G w _ (h.at_ t)⟩
theorem Sim.weaken {M:Nat→Prop}{G:Gh}{s s':List Ob}{w:World}(h:Sim M G s w)(k:WkS s s'):Sim M G s' w:=by
 have get:∀ (i:Nat) (o':Ob),s'[i]?=some o'→∃ o,s[i]?=some o∧WkO o o':=fun i o' hi=>by
  have hlt:i < s.length:=by rw [← k.1]; exact q74 hi
  exact ⟨s[i],List.getElem?_eq_getElem hlt,k.2 i _ _ (List.getElem?_eq_getElem hlt) hi⟩
 refine ⟨h.n.trans k.1.symm,h.inj,h.own,?_,h.lt,?_⟩
 ·intro i o' hi hol
  obtain ⟨o,h1,h2⟩:=get i o' hi
  exact h.live i o h1 (h2 hol).2.1
 ·intro i o' hi hl
  obtain ⟨o,h1,h2⟩:=get i o' hi
  obtain ⟨h2,h3,h5,h6⟩:=h2 hl
  obtain ⟨vs,g1,g2,g3⟩:=h.at_ i o h1 h3
  refine ⟨vs,by rw [h2]; exact g1,g2.trans h5.symm,fun j a' v hj hv=>?_⟩
  have hlt:j < o.cs.length:=by rw [← h5]; exact q74 hj
  exact h6 j _ _ (List.getElem?_eq_getElem hlt) hj M G w v (g3 j _ v (List.getElem?_eq_getElem hlt) hv)
section
variable {P:Program} {o:Oper} {fr:List AV} {s:List Ob}
theorem x66.weaken {fr' fr'':List AV}{v v':AV}{s' s'':List Ob}(h:x66 P o fr s fr' v s')(k1:WkF fr' fr'')(k2:WkM v v')(k3:WkS s' s''):x66 P o fr s fr'' v' s'' :=
 fun M G w a hF hS hf K Q hK=>h M G w a hF hS hf K Q fun cv G' w' h1 h2 h3 h4=>hK cv G' w' h1 (h2.weaken k3) (h3.weaken k1) (k2 M G' w' cv h4)
end
theorem AW_weaken {n0:Nat}{P:Program}{c:Code}{fr fr':List AV}{s s':List Ob}{Q:AQ}(h1:WkF fr fr')(h2:WkS s s')(h:AW n0 P c fr' s' Q):AW n0 P c fr s Q :=
 fun M G0 w0 hM a w ⟨G,k1,k2,k3⟩=>h M G0 w0 hM a w ⟨G,k1,k2.weaken h2,k3.weaken h1⟩
theorem AL_weaken {n0:Nat}{P:Program}{A:Array Oper}{l:List Oper}{fr fr':List AV}{s s':List Ob}{Q:AQ}(h1:WkF fr fr')(h2:WkS s s')(h:AL n0 P A l fr' s' Q):AL n0 P A l fr s Q :=
 fun M G0 w0 hM a w ⟨G,k1,k2,k3⟩=>h M G0 w0 hM a w ⟨G,k1,k2.weaken h2,k3.weaken h1⟩
theorem cm_none {ts:List Nat}{a:AV}(h:a.mark=none):q45 ts a=a:=by unfold q45; rw [h]
def w77 :TV→Option Nat
 | .tl _ _ (.own t _ _)=>some t
 | .ll _ _ (.own t _ _)=>some t
 | _=>none
theorem z39 (v:TV):(dn v).mark=w77 v:=by
 cases v <;> try rfl
 ·rename_i t xs g; cases g <;> rfl
 ·rename_i t xs g; cases g <;> rfl
def x48 (ts:List Nat)(v:TV):TV:=match w77 v with
 | some t=>if ts.contains t=true then qp1 v else v
 | none=>v
theorem dn_tclear (ts:List Nat)(v:TV):dn (x48 ts v)=q45 ts (dn v):=by
 unfold x48 q45
 rw [z39]
 cases w77 v with
 | none=>rfl
 | some t =>
  dsimp only
  split
  ·rw [qn7]
  ·rfl
def z44 (ts:List Nat)(fr:List TV):List TV:=fr.map (x48 ts)
theorem wr9 (ts:List Nat)(fr:List TV):dns (z44 ts fr)=q63 ts (dns fr):=by
 simp only [z44,q63,ql7,List.map_map]
 apply List.map_congr_left
 intro a _
 exact dn_tclear ts a
def v33 (ts:List Nat):TOb→TOb
 | .cells cs t l=>.cells (z44 ts cs) t l
 | o=>o
theorem jp2 : ∀ (t : Ty) (x : El t), ∀ a ∈ q47 t x, a.mark = none
  | .int _, _, a, h => by simp only [q47, List.mem_singleton] at h; subst h; rfl
  | .bool, _, a, h => by simp only [q47, List.mem_singleton] at h; subst h; rfl
  | .str, _, a, h => by simp only [q47, List.mem_singleton] at h; subst h; rfl
  | .list _, _, a, h => by simp only [q47, List.mem_singleton] at h; subst h; rfl
  | .st fs, x, a, h => by simp only [q47] at h; exact go fs x a h
 where go : ∀ (ts : List Ty) (x : Els ts), ∀ a ∈ qc0 ts x, a.mark = none
  | [], _, a, h => by simp [qc0] at h
  | t :: ts, x, a, h => by
    simp only [qc0, List.mem_append] at h
    rcases h with h | h
    · exact jp2 t x.1 a h
    · exact go ts x.2 a h
theorem vb0 : ∀ (t : Ty) (x : El t), (q47 t x).all AV.one = true
  | .int _, _ => rfl
  | .bool, _ => rfl
  | .str, _ => rfl
  | .list _, _ => rfl
  | .st fs, x => by simp only [q47]; exact go fs x
 where go : ∀ (ts : List Ty) (x : Els ts), (qc0 ts x).all AV.one = true
  | [], _ => rfl
  | t :: ts, x => by simp only [qc0, List.all_append, vb0 t x.1, go ts x.2, Bool.and_self]
theorem wi1 {t:Ty}(xs:List (El t)):∀ a ∈ xs.flatMap (q47 t),a.mark=none:=by
 intro a h
 obtain ⟨x,_,h⟩:=List.mem_flatMap.1 h
 exact jp2 t x a h
theorem xz5 {t:Ty}(xs:List (El t)):(xs.flatMap (q47 t)).all AV.one=true:=by
 rw [List.all_flatMap,List.all_eq_true]
 intro x _
 exact vb0 t x
theorem y02 (ts:List Nat):∀ l:List AV,(∀ a ∈ l,a.mark=none)→l.map (q45 ts)=l
 | [],_=>rfl
 | a :: l,h=>by
  simp only [List.map_cons,y02 ts l fun b hb=>h b (by simp [hb])]
  rw [cm_none (h a (by simp))]
theorem uy7 (ts:List Nat)(o:TOb):dnO (v33 ts o)={ dnO o with cs:=(dnO o).cs.map (q45 ts) }:=by
 cases o with
 | cells cs t l=>simp only [v33,dnO,wr9,q63]
 | tarr ty xs t l=>simp only [v33,dnO]; rw [y02 ts _ (wi1 xs)]
def ub9 (ts:List Nat)(s:List TOb):List TOb:=s.map (v33 ts)
theorem um0 (ts:List Nat)(s:List TOb):dnS (ub9 ts s)=q76 ts (dnS s):=by
 simp only [dnS,ub9,q76,List.map_map]
 apply List.map_congr_left
 intro o _
 exact uy7 ts o
theorem ze3 (ts:List Nat)(a:AV):WkM a (q45 ts a):=fun M G w v h=>⟨j94 ts h.1,zv5 ts h.2⟩
theorem x52 (ts:List Nat)(fr:List AV):WkF fr (q63 ts fr):=by
 refine ⟨by simp [q63],fun t=>?_⟩
 unfold q63
 rw [List.getD_eq_getElem?_getD,List.getD_eq_getElem?_getD,List.getElem?_map]
 cases fr[t]? with
 | none=>exact .refl _
 | some a=>exact ze3 ts a
theorem wh7 (ts:List Nat)(s:List Ob):WkS s (q76 ts s):=by
 refine ⟨by simp [q76],fun i o o' h h'=>?_⟩
 obtain ⟨o2,h1,rfl⟩:=qh1 h'
 rw [h] at h1
 cases h1
 refine fun hl=>⟨rfl,hl,by simp,fun k a a' ha ha'=>?_⟩
 rw [List.getElem?_map,ha] at ha'
 cases ha'
 exact ze3 ts a
def fitLim (P:Program)(e:TypeId):Nat:=match P.info? e with
 | some i=>140737488355328 / max 1 i.bytes
 | none=>0
theorem fits_of {P:Program}{e:TypeId}{size n:Nat}(h0:ya8 P e size 0=true)(h:n≤fitLim P e):ya8 P e size n=true:=by
 unfold ya8 at h0 ⊢
 unfold fitLim at h
 split at h0
 ·rename_i i hi
  rw [hi] at h
  dsimp only at h
  simp only [hi,Nat.zero_mul,Nat.zero_le,decide_true,Bool.true_and] at h0 ⊢
  rw [h0]
  have h1:n * max 1 i.bytes≤140737488355328:=Nat.le_trans (Nat.mul_le_mul_right _ h) (Nat.div_mul_le_self _ _)
  have h2:n * i.bytes≤n * max 1 i.bytes:=Nat.mul_le_mul_left _ (Nat.le_max_right _ _)
  have h3:n * 1≤n * max 1 i.bytes:=Nat.mul_le_mul_left _ (Nat.le_max_left _ _)
  simp only [Bool.and_true,Bool.and_eq_true,decide_eq_true_eq]
  omega
 ·cases h0
def j40 (ty:Ty)(e:TypeId)(size d:Nat):TV→Option (List (El ty)×Nat)
 | .tl ty' xs (.own t0 e' z')=>if e'=e∧z'=size then (v44 ty xs).map fun xs=>(xs,t0) else none
 | .tl ty' xs .full=>(v44 ty xs).map fun xs=>(xs,d)
 | .ll [] 0 .full=>some ([],d)
 | .ll [] 0 (.own t0 e' z')=>if e'=e∧z'=size then some ([],t0) else none
 | _=>none
theorem vk5 {ty:Ty}{e:TypeId}{size d:Nat}{x:TV}{xs:List (El ty)}{t0:Nat}(hs:size=ty.size)(h:j40 ty e size d x=some (xs,t0)):WkM (dn x) (.list (xs.flatMap (q47 ty)) xs.length (.own t0 e size)):=by
 unfold j40 at h
 split at h
 ·split at h
  ·rename_i hc
   obtain ⟨rfl,rfl⟩:=hc
   obtain ⟨ys,h1,h2⟩:=q50 h
   cases h2
   obtain ⟨e1,rfl⟩:=qz4 h1
   subst e1
   exact .refl _
  ·cases h
 ·obtain ⟨ys,h1,h2⟩:=q50 h
  cases h2
  obtain ⟨e1,rfl⟩:=qz4 h1
  subst e1
  exact .full (by rw [qy2,hs])
 ·cases h
  show WkM (.list [] 0 .full) (.list [] 0 _)
  exact .full (by simp)
 ·split at h
  ·rename_i hc
   obtain ⟨rfl,rfl⟩:=hc
   cases h
   exact .refl _
  ·cases h
 ·cases h
def xh6 (P:Program)(d:Nat)(fr:List TV)(s:List TOb)(t:TypeId)(x y:TV):Option (Bool×List TV×TV×List TOb) :=
 match wl7 P t with
 | none=>none
 | some (e,size) =>
  match y with
  | .ll [] 0 _=>match x with
   | .tl ty xs g=>some (true,fr,x,s)
   | .ll [] 0 g=>some (true,fr,x,s)
   | _=>none
  | .tl ty ys _=>if size=ty.size∧ya8 P e size 0=true then
    match j40 ty e size d x with
    | some (xs,t0)=>some (w23 (xs.length + ys.length) (fitLim P e),z44 [t0] fr,.tl ty (xs ++ ys) (.own t0 e size),ub9 [t0] s)
    | none=>none
   else none
  | _=>none
section
variable {P:Program} {o:Oper}
theorem app_own {fr:List AV}{s:List Ob}{c:Call}{x y:Operand}{t e:TypeId}{size t0:Nat}{ty:Ty}{xs ys:List (El ty)}{g:Tag}(ho:o.op=.call c)(hc:c.callee=.builtin .append)(ha:c.args=#[x,y])(ht:c.argTypes=#[t,t])(he:wl7 P t=some (e,size))
  (hs:size=ty.size) (hfit:ya8 P e size (xs.length + ys.length)=true)
  (hx:q44 fr x=.list (xs.flatMap (q47 ty)) xs.length (.own t0 e size)) (hy:q44 fr y=.list (ys.flatMap (q47 ty)) ys.length g) :
  x66 P o fr s (q63 [t0] fr) (.list ((xs ++ ys).flatMap (q47 ty)) (xs ++ ys).length (.own t0 e size)) (q76 [t0] s):=by
 rw [List.flatMap_append,List.length_append]
 rcases Nat.eq_zero_or_pos ys.length with h0 | h0
 ·have hnil:=List.eq_nil_of_length_eq_zero h0
  subst hnil
  refine (j35 (qm9 ho hc ha ht he hx hy)).weaken (x52 _ _) ?_ (wh7 _ _)
  rw [hx,List.flatMap_nil,List.append_nil]
  exact .refl _
 ·exact v08 t0 ho hc ha ht he hx hy h0 (by rw [qy2,hs]) (xz5 ys) hfit
theorem km3 {fr:List AV}{s:List Ob}{c:Call}{x y:Operand}{t e:TypeId}{size d:Nat}{ty:Ty}{xs ys:List (El ty)}{g:Tag}(ho:o.op=.call c)(hc:c.callee=.builtin .append)(ha:c.args=#[x,y])(ht:c.argTypes=#[t,t])(he:wl7 P t=some (e,size))
  (hs:size=ty.size) (hfit:ya8 P e size (xs.length + ys.length)=true)
  (hx:q44 fr x=.list (xs.flatMap (q47 ty)) xs.length .full) (hy:q44 fr y=.list (ys.flatMap (q47 ty)) ys.length g) :
  x66 P o fr s (q63 [d] fr) (.list ((xs ++ ys).flatMap (q47 ty)) (xs ++ ys).length (.own d e size)) (q76 [d] s):=by
 rw [List.flatMap_append,List.length_append]
 rcases Nat.eq_zero_or_pos ys.length with h0 | h0
 ·have hnil:=List.eq_nil_of_length_eq_zero h0
  subst hnil
  refine (j35 (qm9 ho hc ha ht he hx hy)).weaken (x52 _ _) ?_ (wh7 _ _)
  rw [hx,List.flatMap_nil,List.append_nil]
  exact .full (by rw [qy2,hs])
 ·exact (xw7 d ho hc ha ht he hx hy h0 (by rw [qy2,hs]) (by rw [qy2,hs]) (xz5 ys) hfit).weaken (x52 _ _) (.refl _) (wh7 _ _)
theorem uq1 {fr fr':List TV}{s s':List TOb}{c:Call}{x y:Operand}{t:TypeId}{d:Nat}{g:Bool}{v:TV}(ho:o.op=.call c)(hc:c.callee=.builtin .append)(ha:c.args=#[x,y])(ht:c.argTypes=#[t,t])
  (h:xh6 P d fr s t (q88 fr x) (q88 fr y)=some (g,fr',v,s')) (hg:gdP g):x66 P o (dns fr) (dnS s) (dns fr') (dn v) (dnS s'):=by
 unfold xh6 at h
 split at h
 ·cases h
 rename_i e size he
 split at h
 ·rename_i gy hy
  have hy':q44 (dns fr) y=.list [] 0 gy:=by rw [← q59,hy]; rfl
  split at h
  ·rename_i ty xs gx hx
   cases h
   have hx':q44 (dns fr) x=.list (xs.flatMap (q47 ty)) xs.length gx:=by rw [← q59,hx]; rfl
   have:=j35 (qm9 (s:=dnS s) ho hc ha ht he hx' hy')
   rw [hx'] at this
   rw [hx]
   exact this
  ·rename_i gx hx
   cases h
   have hx':q44 (dns fr) x=.list [] 0 gx:=by rw [← q59,hx]; rfl
   have:=j35 (qm9 (s:=dnS s) ho hc ha ht he hx' hy')
   rw [hx'] at this
   rw [hx]
   exact this
  ·cases h
 ·rename_i ty ys gy hy
  have hy':q44 (dns fr) y=.list (ys.flatMap (q47 ty)) ys.length gy:=by rw [← q59,hy]; rfl
  split at h
  ·rename_i hcnd
   obtain ⟨hs,h0⟩:=hcnd
   split at h
   ·rename_i xs t0 hown
    cases h
    have hfit:=fits_of h0 (by simpa only [gdP,ua0] using hg)
    rw [wr9,um0]
    obtain ⟨xv,hxv⟩:∃ xv,q88 fr x=xv:=⟨_,rfl⟩
    have hx':q44 (dns fr) x=dn xv:=by rw [← q59,hxv]
    rw [hxv] at hown
    unfold j40 at hown
    split at hown
    ·split at hown
     ·rename_i hc2
      obtain ⟨rfl,rfl⟩:=hc2
      obtain ⟨zs,h1,h2⟩:=q50 hown
      cases h2
      obtain ⟨e1,rfl⟩:=qz4 h1
      subst e1
      exact app_own ho hc ha ht he hs hfit hx' hy'
     ·cases hown
    ·obtain ⟨zs,h1,h2⟩:=q50 hown
     cases h2
     obtain ⟨e1,rfl⟩:=qz4 h1
     subst e1
     exact km3 ho hc ha ht he hs hfit hx' hy'
    ·cases hown
     exact km3 (xs:=[]) ho hc ha ht he hs hfit hx' hy'
    ·split at hown
     ·rename_i hc2
      obtain ⟨rfl,rfl⟩:=hc2
      cases hown
      exact app_own (xs:=[]) ho hc ha ht he hs hfit hx' hy'
     ·cases hown
    ·cases hown
   ·cases h
  ·cases h
 ·cases h
def kg8 :TV→Option (List TV)
 | .agg cs=>some (cs.map qp1)
 | .undef | .tup _ | .ap _ _ _ _=>none
 | a=>some [a]
theorem v73 {v:TV}{cs:List TV}(h:kg8 v=some cs):zq8 (dn v)=some (dns cs):=by
 unfold kg8 at h
 split at h
 ·cases h; simp only [dn,zq8,zx5]
 ·cases h
 ·cases h
 ·cases h
 ·rename_i h1 h2 h3 h4
  cases h
  cases v <;> first
   | exact absurd rfl (h1 _)
   | exact absurd rfl h2
   | exact absurd rfl (h3 _)
   | exact absurd rfl (h4 _ _ _ _)
   | rfl
def tone :TV→Bool
 | .undef | .agg _ | .tup _=>false
 | _=>true
theorem tone_spec (v:TV):(dn v).one=tone v:=by cases v <;> rfl
theorem vx4 (l:List TV):(dns l).all AV.one=l.all tone:=by
 rw [ql7,List.all_map]
 congr 1
 funext v
 exact tone_spec v
def y80 (P:Program)(s:List TOb)(t:TypeId)(x y:TV):Option (Bool×List TOb) :=
 match kg8 y,P.info? t with
 | some new,some i=>if i.size=new.length∧new.all tone=true then
   match x with
   | .ref j k=>match s[j]? with
    | some (.cells cs ot l)=>if l=true∧k + new.length≤cs.length then some (true,s.set j (.cells (ve7 cs k new) ot l)) else none
    | _=>none
   | .ap j ix sz k=>match s[j]? with
    | some (.tarr ty xs ot l)=>if l=true∧sz=ty.size∧k + new.length≤ty.size then
      match dec ty (ve7 (u25 ty (xs.getD ix.toNat (dflt ty))) k (new.map qp1)) with
      | some (x',[])=>some (decide (0≤ix∧ix < xs.length),s.set j (.tarr ty (xs.set ix.toNat x') ot l))
      | _=>none
     else none
    | _=>none
   | _=>none
  else none
 | _,_=>none
theorem flat_set {t:Ty}(xs:List (El t))(i:Nat)(y:El t)(a c:List AV)(h:i < xs.length)(e1:xs.flatMap (q47 t)=a ++ c)(e2:a.length=i * t.size):(xs.set i y).flatMap (q47 t)=a ++ q47 t y ++ c.drop t.size:=by
 have ha:a=(xs.take i).flatMap (q47 t):=by rw [← ux9,e1,← e2,List.take_left]
 have hc:c=(xs.drop i).flatMap (q47 t):=by rw [← uy8,e1,← e2,List.drop_left]
 rw [ha,hc,List.set_eq_take_append_cons_drop,if_pos h,List.flatMap_append,List.flatMap_cons,← List.append_assoc]
 congr 1
 rw [List.drop_eq_getElem_cons h,List.flatMap_cons,List.drop_left' (qe2 _ _)]
theorem WkS.set {s:List Ob}{i:Nat}{o o':Ob}(h:WkO o o'):WkS (s.set i o) (s.set i o'):=by
 refine ⟨by simp,fun j a b ha hb=>?_⟩
 rw [List.getElem?_set] at ha hb
 split at ha
 ·rename_i hij
  rw [if_pos hij] at hb
  split at ha
  ·rename_i hlt
   rw [if_pos hlt] at hb
   cases ha
   cases hb
   exact h
  ·cases ha
 ·rename_i hij
  rw [if_neg hij,ha] at hb
  cases hb
  exact .refl _
theorem v06 (s:List TOb)(i:Nat)(o:TOb):dnS (s.set i o)=(dnS s).set i (dnO o):=by simp [dnS,List.map_set]
theorem v69 :∀ l:List AV,(∀ a ∈ l,a.mark=none)→l.map AV.plain=l
 | [],_=>rfl
 | a :: l,h=>by
  simp only [List.map_cons,v69 l fun b hb=>h b (by simp [hb])]
  have:=h a (by simp)
  congr 1
  cases a <;> try rfl
  rename_i cs n g
  cases g <;> first | rfl | cases this
def tgtOf :TV→Option Nat
 | .ref j _=>some j
 | .ap j _ _ _=>some j
 | _=>none
def ye8 (P:Program)(o:Oper)(F:List AV)(s:List Ob)(idx:Nat)(s':List Ob):Prop:=∀ M G w a,Sim M G s w→FR M G w F a →
 ∃ w',(execOp a.eval o).run P w=.ok .skip w'∧Ext (fun _=>False) G w G w'∧(∀ b,b≠G.mu idx→w'.heap[b]?=w.heap[b]?)∧idx < G.n∧G.live idx=true∧Sim M G s' w'
theorem ye8.of {F:List AV}{s:List Ob}{t:TypeId}{x y:Operand}{i k:Nat}{ob:Ob}{new cs':List AV}(ho:o.op=.store t x y)(hx:q44 F x=.ref i k)(hi:s[i]?=some ob)(hl:ob.live=true)
  (hy:zq8 (q44 F y)=some new) (hst:v48 P t ob.cs k new=some cs'):ye8 P o F s i (s.set i { ob with cs:=cs' }):=kv2 ho hx hi hl hy hst
theorem ye8.weaken {F:List AV}{s s' s'':List Ob}{idx:Nat}(h:ye8 P o F s idx s')(k:WkS s' s''):ye8 P o F s idx s'':=fun M G w a hS hf=>by
 obtain ⟨w',h1,h2,h3,h4,h5,h6⟩:=h M G w a hS hf
 exact ⟨w',h1,h2,h3,h4,h5,h6.weaken k⟩
theorem ye8.step {F:List AV}{s s':List Ob}{idx:Nat}(h:ye8 P o F s idx s'):x66 P o F s F (.tuple []) s':=by
 intro M G w a hF hS hf K Q hK
 obtain ⟨w',h1,hE,_,_,_,hS'⟩:=h M G w a hS hf
 unfold Oper.wp
 rw [h1,Oper.upon_skip]
 exact hK undef G w' (hE.mono fun _ _=>False.elim) hS' (hf.grow hE) ⟨by simp only [VR0]; exact ⟨[],rfl,by simp only [q55]⟩,qf0.of_plain rfl⟩
theorem yt3 {F:List AV}{s s':List TOb}{t:TypeId}{x y:Operand}{xv yv:TV}{g:Bool}(ho:o.op=.store t x y)(hFx:q44 F x=dn xv)(hFy:q44 F y=dn yv)(h:y80 P s t xv yv=some (g,s'))(hg:gdP g):∃ idx,tgtOf xv=some idx∧ye8 P o F (dnS s) idx (dnS s'):=by
 unfold y80 at h
 split at h
 case h_2=>cases h
 rename_i new inf hnew hinf
 split at h
 case isFalse=>cases h
 rename_i hc
 obtain ⟨hsz,hone⟩:=hc
 have hnew':=v73 hnew
 rw [← hFy] at hnew'
 split at h
 ·rename_i j k
  have hx':q44 F x=.ref j k:=hFx
  refine ⟨j,rfl,?_⟩
  split at h
  ·rename_i cs ot l hj
   split at h
   ·rename_i hcc
    cases h
    have hj':(dnS s)[j]?=some ⟨dns cs,ot,l⟩:=by rw [qi6,hj]; rfl
    have hst:v48 P t (dns cs) k (dns new)=some (wg1 (dns cs) k (dns new)):=by
     unfold v48
     rw [hinf]
     dsimp only
     rw [if_pos ⟨by rw [qb6]; exact hsz,by rw [qb6,qb6]; exact hcc.2,by rw [vx4]; exact hone⟩]
    have:=ye8.of (P:=P) (o:=o) (F:=F) (s:=dnS s) ho hx' hj' hcc.1 hnew' hst
    rw [v06]
    simp only [dnO,yi9]
    exact this
   ·cases h
  ·cases h
 ·rename_i j ix sz k
  have hx':q44 F x=.ref j (ix.toNat * sz + k):=hFx
  refine ⟨j,rfl,?_⟩
  split at h
  ·rename_i ty xs ot l hj
   split at h
   ·rename_i hcc
    obtain ⟨hl,hsz2,hk⟩:=hcc
    split at h
    ·rename_i x' hdec
     cases h
     simp only [gdP,decide_eq_true_eq] at hg
     have hlt:ix.toNat < xs.length:=by omega
     have hj':(dnS s)[j]?=some ⟨xs.flatMap (q47 ty),ot,l⟩:=by rw [qi6,hj]; rfl
     obtain ⟨a,c,e1,e2,e3,e4⟩:=xi7 xs ix.toNat hlt
     have hal:ix.toNat * sz + k=a.length + k:=by rw [hsz2,e2]
     rw [hal] at hx'
     have hst:v48 P t (xs.flatMap (q47 ty)) (a.length + k) (dns new)=some (wg1 (xs.flatMap (q47 ty)) (a.length + k) (dns new)):=by
      unfold v48
      rw [hinf]
      dsimp only
      rw [if_pos ⟨by rw [qb6]; exact hsz,by rw [qb6,e1,List.length_append]; omega,by rw [vx4]; exact hone⟩]
     have:=ye8.of (P:=P) (o:=o) (F:=F) (s:=dnS s) ho hx' hj' hl hnew' hst
     refine this.weaken ?_
     rw [v06]
     refine .set fun hl=>⟨rfl,hl,?_⟩
     simp only [dnO]
     have h1:=zf7 ty _ _ _ hdec
     simp only [dns,List.append_nil,yi9,y74,zx5,← e3] at h1
     have h2:wg1 (xs.flatMap (q47 ty)) (a.length + k) (dns new)=a ++ wg1 (c.take ty.size) k (dns new) ++ c.drop ty.size:=by
      rw [e1]
      unfold wg1
      rw [List.take_append,List.take_of_length_le (by omega),Nat.add_sub_cancel_left]
      rw [Nat.add_assoc,List.drop_append,List.drop_of_length_le (by omega),Nat.add_sub_cancel_left,List.nil_append]
      rw [List.take_take,Nat.min_eq_left (by omega)]
      simp only [List.append_assoc]
      congr 3
      rw [List.drop_take]
      have hkn:k + (dns new).length≤ty.size:=by rw [qb6]; exact hk
      rw [show c.drop ty.size=(c.drop (k + (dns new).length)).drop (ty.size - (k + (dns new).length)) by rw [List.drop_drop]; congr 1; omega]
      rw [List.take_append_drop]
     have h3:=flat_set xs ix.toNat x' a c hlt e1 e2
     rw [h2,h3]
     have hlen:(wg1 (c.take ty.size) k (dns new)).length=ty.size:=by
      unfold wg1
      simp only [List.length_append,List.length_take,List.length_drop]
      rw [qb6]
      omega
     refine ⟨by simp only [List.length_append,hlen,qe2],?_⟩
     intro q b b' hb hb'
     rcases Nat.lt_or_ge q a.length with hq | hq
     ·rw [List.append_assoc,List.getElem?_append_left hq] at hb hb'
      rw [hb] at hb'
      cases hb'
      exact .refl _
     ·rw [List.append_assoc,List.getElem?_append_right hq] at hb hb'
      rcases Nat.lt_or_ge (q - a.length) ty.size with hq2 | hq2
      ·rw [List.getElem?_append_left (by omega)] at hb
       rw [List.getElem?_append_left (by rw [qe2]; omega)] at hb'
       have hm:b'.mark=none:=jp2 ty x' b' (List.mem_of_getElem? hb')
       refine .of ?_ hm
       have h4:∀ {l m:List AV},Wks l m→∀ (i:Nat) (y y':AV),l[i]?=some y→m[i]?=some y'→Wk y y':=by
        intro l m hw
        induction hw with
        | nil=>intro i y y' h; simp at h
        | cons hh _ ih =>
         intro i y y' h h'
         cases i with
         | zero=>simp at h h'; subst h; subst h'; exact hh
         | succ i=>exact ih i y y' (by simpa using h) (by simpa using h')
       have h5:(wg1 (c.take ty.size) k ((dns new).map AV.plain))[q - a.length]?=some b.plain∨(wg1 (c.take ty.size) k ((dns new).map AV.plain))[q - a.length]?=some b:=by
        unfold wg1 at hb ⊢
        rcases Nat.lt_or_ge (q - a.length) k with hh | hh
        ·right
         rw [List.append_assoc,List.getElem?_append_left (by simp; omega)] at hb ⊢
         exact hb
        ·rcases Nat.lt_or_ge (q - a.length) (k + (dns new).length) with hh2 | hh2
         ·left
          rw [List.append_assoc,List.getElem?_append_right (by simp; omega),List.getElem?_append_left (by simp; omega)] at hb ⊢
          rw [List.getElem?_map]
          simp only [List.length_take] at hb ⊢
          rw [hb]
          rfl
         ·right
          rw [List.getElem?_append_right (by simp; omega)] at hb ⊢
          simp only [List.length_append,List.length_take,List.length_map] at hb ⊢
          exact hb
       rcases h5 with h5 | h5
       ·exact (AV.plain_wk b).trans (h4 h1 _ _ _ h5 hb')
       ·exact h4 h1 _ _ _ h5 hb'
      ·rw [List.getElem?_append_right (by omega)] at hb
       rw [List.getElem?_append_right (by rw [qe2]; omega)] at hb'
       rw [hlen] at hb
       rw [qe2] at hb'
       rw [hb] at hb'
       cases hb'
       exact .refl _
    ·cases h
   ·cases h
  ·cases h
 ·cases h
theorem ue6 {fr:List TV}{s s':List TOb}{t:TypeId}{x y:Operand}{g:Bool}(ho:o.op=.store t x y)(h:y80 P s t (q88 fr x) (q88 fr y)=some (g,s'))(hg:gdP g):x66 P o (dns fr) (dnS s) (dns fr) (.tuple []) (dnS s'):=by
 obtain ⟨idx,_,h1⟩:=yt3 (F:=dns fr) ho (q59 fr x).symm (q59 fr y).symm h hg
 exact h1.step
end
end Go.Proofs.YtgicljncknbgcaaGreat.Abs
