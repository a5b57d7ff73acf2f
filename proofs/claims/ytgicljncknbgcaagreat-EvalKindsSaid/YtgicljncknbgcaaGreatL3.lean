/- Typed values: codes of types, what they hold, their cells; the evaluator's values. -/
import Derived.Test.YtgicljncknbgcaaGreatL2
set_option linter.unusedVariables false
set_option linter.unusedSimpArgs false
set_option linter.unusedSectionVars false
namespace Go.Proofs.YtgicljncknbgcaaGreat.Abs
open Go Go.ChangeShapes Go.WideShapes Go.ChangeAt Go.RowKit
inductive Ty where
 |int (k:IntKind)
 |bool
 |str
 |list (e:Ty)
 |st (fs:List Ty)
mutual
def El :Ty→Type
 |.int _=>Int
 |.bool=>Bool
 |.str=>List UInt8
 |.list e=>List (El e)
 |.st fs=>Els fs
def Els :List Ty→Type
 |[]=>Unit
 |t::ts=>El t×Els ts
end
mutual
def dflt :(t:Ty)→El t
 |.int _=>(0:Int)
 |.bool=>false
 |.str=>([]:List UInt8)
 |.list e=>([]:List (El e))
 |.st fs=>dflts fs
def dflts :(ts:List Ty)→Els ts
 |[]=>()
 |t::ts=>(dflt t,dflts ts)
end
mutual
def Ty.size :Ty→Nat
 |.int _=>1
 |.bool=>1
 |.str=>1
 |.list _=>1
 |.st fs=>xi0 fs
def xi0 :List Ty→Nat
 |[]=>0
 |t::ts=>t.size+xi0 ts
end
mutual
def q50 :(t:Ty)→El t→List AV
 |.int k,n=>[.int k n]
 |.bool,b=>[.bool b]
 |.str,s=>[.str s]
 |.list e,xs=>[.list (List.flatMap (q50 e) xs) (List.length xs) .unk]
 |.st fs,x=>qb9 fs x
def qb9 :(ts:List Ty)→Els ts→List AV
 |[],_=>[]
 |t::ts,x=>q50 t x.1++qb9 ts x.2
end
mutual
theorem qd7 :∀ (t:Ty) (x:El t),(q50 t x).length=t.size
 |.int _,_=>rfl
 |.bool,_=>rfl
 |.str,_=>rfl
 |.list _,_=>rfl
 |.st fs,x=>by simp only[q50,Ty.size];exact v23 fs x
theorem v23 :∀ (ts:List Ty) (x:Els ts),(qb9 ts x).length=xi0 ts
 |[],_=>rfl
 |t::ts,x=>by simp only[qb9,xi0,List.length_append,qd7 t x.1,v23 ts x.2]
end
theorem qx7 {t:Ty}(xs:List (El t)):(xs.flatMap (q50 t)).length=xs.length*t.size:=by
 induction xs with
 |nil=>simp
 |cons x xs ih=>simp only[List.flatMap_cons,List.length_append,qd7,ih,List.length_cons];rw[Nat.add_mul];omega
mutual
def tyEq :(a b:Ty)→Decidable (a=b)
 |.int k,.int k'=>if h:k=k' then .isTrue (by rw[h]) else .isFalse (by intro e;cases e;exact h rfl)
 |.bool,.bool=>.isTrue rfl
 |.str,.str=>.isTrue rfl
 |.list a,.list b=>match tyEq a b with
  |.isTrue h=>.isTrue (by rw[h])
  |.isFalse h=>.isFalse (by intro e;cases e;exact h rfl)
 |.st a,.st b=>match tysEq a b with
  |.isTrue h=>.isTrue (by rw[h])
  |.isFalse h=>.isFalse (by intro e;cases e;exact h rfl)
 |.int _,.bool=>.isFalse (by intro e;cases e)
 |.int _,.str=>.isFalse (by intro e;cases e)
 |.int _,.list _=>.isFalse (by intro e;cases e)
 |.int _,.st _=>.isFalse (by intro e;cases e)
 |.bool,.int _=>.isFalse (by intro e;cases e)
 |.bool,.str=>.isFalse (by intro e;cases e)
 |.bool,.list _=>.isFalse (by intro e;cases e)
 |.bool,.st _=>.isFalse (by intro e;cases e)
 |.str,.bool=>.isFalse (by intro e;cases e)
 |.str,.int _=>.isFalse (by intro e;cases e)
 |.str,.list _=>.isFalse (by intro e;cases e)
 |.str,.st _=>.isFalse (by intro e;cases e)
 |.list _,.bool=>.isFalse (by intro e;cases e)
 |.list _,.str=>.isFalse (by intro e;cases e)
 |.list _,.int _=>.isFalse (by intro e;cases e)
 |.list _,.st _=>.isFalse (by intro e;cases e)
 |.st _,.bool=>.isFalse (by intro e;cases e)
 |.st _,.str=>.isFalse (by intro e;cases e)
 |.st _,.list _=>.isFalse (by intro e;cases e)
 |.st _,.int _=>.isFalse (by intro e;cases e)
def tysEq :(a b:List Ty)→Decidable (a=b)
 |[],[]=>.isTrue rfl
 |[],_::_=>.isFalse (by intro e;cases e)
 |_::_,[]=>.isFalse (by intro e;cases e)
 |a::as,b::bs=>match tyEq a b,tysEq as bs with
  |.isTrue h,.isTrue k=>.isTrue (by rw[h,k])
  |.isFalse h,_=>.isFalse (by intro e;cases e;exact h rfl)
  |_,.isFalse h=>.isFalse (by intro e;cases e;exact h rfl)
end
def vk0 {a:Ty}(b:Ty)(x:List (El a)):Option (List (El b)):=match tyEq a b with
 |.isTrue h=>some (h ▸ x)
 |.isFalse _=>none
inductive TV where
 |undef
 |int (k:IntKind) (n:Int)
 |bool (b:Bool)
 |tt
 |ff
 |str (s:List UInt8)
 |nilp
 |ref (i o:Nat)
 |tl (t:Ty) (xs:List (El t)) (g:Tag)
 |ll (cs:List TV) (n:Nat) (g:Tag)
 |ep (cs:List TV) (o:Nat)
 |arr (i n:Nat)
 |ap (i:Nat) (ix:Int) (sz o:Nat)
 |nilf
 |func (f:Fn) (cs:List TV)
 |agg (cs:List TV)
 |tup (vs:List TV)
mutual
def up1 :(t:Ty)→El t→List TV
 |.int k,n=>[.int k n]
 |.bool,b=>[.bool b]
 |.str,s=>[.str s]
 |.list e,xs=>[.tl e xs .unk]
 |.st fs,x=>xz4 fs x
def xz4 :(ts:List Ty)→Els ts→List TV
 |[],_=>[]
 |t::ts,x=>up1 t x.1++xz4 ts x.2
end
mutual
def dn :TV→AV
 |.undef=>.undef
 |.int k n=>.int k n
 |.bool b=>.bool b
 |.tt=>.bool true
 |.ff=>.bool false
 |.str s=>.str s
 |.nilp=>.nilp
 |.ref i o=>.ref i o
 |.tl t xs g=>.list (xs.flatMap (q50 t)) xs.length g
 |.ll cs n g=>.list (dns cs) n g
 |.ep cs o=>.eptr (dns cs) o
 |.arr i n=>.arr i n
 |.ap i ix sz o=>.ref i (ix.toNat*sz+o)
 |.nilf=>.nilf
 |.func f cs=>.func f (dns cs)
 |.agg cs=>.agg (dns cs)
 |.tup vs=>.tuple (dns vs)
def dns :List TV→List AV
 |[]=>[]
 |a::as=>dn a::dns as
end
theorem qm9 :∀ l:List TV,dns l=l.map dn
 |[]=>rfl
 |a::as=>by simp only[dns,List.map_cons,qm9 as]
theorem y13 (a b:List TV):dns (a++b)=dns a++dns b:=by simp[qm9]
mutual
theorem yh2 :∀ (t:Ty) (x:El t),dns (up1 t x)=q50 t x
 |.int _,_=>rfl
 |.bool,_=>rfl
 |.str,_=>rfl
 |.list _,_=>rfl
 |.st fs,x=>by simp only[up1,q50];exact wt9 fs x
theorem wt9 :∀ (ts:List Ty) (x:Els ts),dns (xz4 ts x)=qb9 ts x
 |[],_=>rfl
 |t::ts,x=>by simp only[xz4,qb9,y13,yh2 t x.1,wt9 ts x.2]
end
def Wk (a b:AV):Prop:=∀ G w v,VR0 G w a v→VR0 G w b v
def WkM (a b:AV):Prop:=∀ M G w v,VR M G w a v→VR M G w b v
theorem Wk.refl (a:AV):Wk a a:=fun _ _ _ h=>h
theorem WkM.refl (a:AV):WkM a a:=fun _ _ _ _ h=>h
theorem Wk.trans {a b c:AV}(h:Wk a b)(k:Wk b c):Wk a c:=fun G w v x=>k G w v (h G w v x)
theorem WkM.of {a b:AV}(h:Wk a b)(hb:b.mark=none):WkM a b:=fun M G w v x=>⟨h G w v x.1,qe9.of_plain hb⟩
theorem Wk.undef (a:AV):Wk a .undef:=fun _ _ _ _=>by simp only[VR0]
theorem WkM.undef (a:AV):WkM a .undef:=.of (.undef a) rfl
inductive Wks:List AV→List AV→Prop
 |nil:Wks [] []
 |cons {a b as bs}:Wk a b→Wks as bs→Wks (a::as) (b::bs)
theorem Wks.refl :∀ l,Wks l l
 |[]=>.nil
 |a::l=>.cons (.refl a) (Wks.refl l)
theorem Wks.app {a b c d:List AV}(h:Wks a b)(k:Wks c d):Wks (a++c) (b++d):=by
 induction h with
 |nil=>exact k
 |cons h _ ih=>exact .cons h ih
theorem Wks.len {a b:List AV}(h:Wks a b):a.length=b.length:=by
 induction h with
 |nil=>rfl
 |cons _ _ ih=>simp[ih]
theorem Wks.trans {a b c:List AV}(h:Wks a b):Wks b c→Wks a c:=by
 induction h generalizing c with
 |nil=>exact id
 |cons h _ ih=>intro k;cases k with|cons k1 k2=>exact .cons (h.trans k1) (ih k2)
theorem Wks.VRs0 {G:Gh}{w:World}{a b:List AV}(h:Wks a b):∀ {vs:List Value},q61 G w a vs→q61 G w b vs:=by
 induction h with
 |nil=>exact id
 |cons h _ ih =>
  intro vs k
  simp only[Abs.q61] at k ⊢
  obtain⟨v,vs',e,k1,k2⟩:=k
  exact⟨v,vs',e,h G w v k1,ih k2⟩
theorem Wk.agg {a b:List AV}(h:Wks a b):Wk (.agg a) (.agg b):=fun G w v k=>by
 simp only[VR0] at k ⊢
 obtain⟨vs,e,k⟩:=k
 exact⟨vs,e,h.VRs0 k⟩
theorem Wk.tuple {a b:List AV}(h:Wks a b):Wk (.tuple a) (.tuple b):=fun G w v k=>by
 simp only[VR0] at k ⊢
 obtain⟨vs,e,k⟩:=k
 exact⟨vs,e,h.VRs0 k⟩
theorem Wk.func {f:Fn}{a b:List AV}(h:Wks a b):Wk (.func f a) (.func f b):=fun G w v k=>by
 simp only[VR0] at k ⊢
 obtain⟨vs,e,k⟩:=k
 exact⟨vs,e,h.VRs0 k⟩
theorem Wk.list {a b:List AV}{n:Nat}{g g':Tag}(h:Wks a b)(hg:g'=.full→g=.full):Wk (.list a n g) (.list b n g'):=fun G w v k=>by
 simp only[VR0] at k ⊢
 obtain⟨A,cap,k1,k2,k3,k4⟩:=k
 refine⟨A,cap,k1,k2,fun e=>k3 (hg e),?_⟩
 rcases k4 with rfl|⟨bl,o,vs,k5,k6,k7,k8⟩
 ·cases h;exact .inl rfl
 ·exact .inr ⟨bl,o,vs,k5,by rw[← h.len];exact k6,k7,h.VRs0 k8⟩
theorem Wk.unk {a b:List AV}{n:Nat}{g:Tag}(h:Wks a b):Wk (.list a n g) (.list b n .unk):=.list h (by intro e;cases e)
theorem WkM.full {cs:List AV}{n t:Nat}{e:TypeId}{z:Nat}(h:cs.length=n*z):WkM (.list cs n .full) (.list cs n (.own t e z)):=fun M G w v k=>by
 obtain⟨k,_⟩:=k
 refine⟨Wk.list (Wks.refl _) (by intro e;cases e) G w v k,?_⟩
 simp only[VR0] at k
 obtain⟨A,cap,k1,k2,k3,k4⟩:=k
 have:=k3 trivial
 subst this
 exact .inl ⟨A,k1,h⟩
theorem AV.plain_wk (a:AV):Wk a a.plain:=fun _ _ _ h=>h.plain
theorem Wk.eptr {cs a c:List AV}{n:Nat}{o:Nat}(h:cs=a++c.take n++c.drop n)(hn:n≤c.length):Wk (.eptr cs (a.length+o)) (.eptr (c.take n) o):=fun G w v k=>by
 simp only[VR0] at k ⊢
 obtain⟨b,ob,vs,k1,⟨k2,k2',k2''⟩,k3,k4⟩:=k
 have hl:vs.length=cs.length:=k4.length
 have hcl:cs.length=a.length+c.length:=by rw[h,List.append_assoc,List.take_append_drop,List.length_append]
 refine⟨b,ob+a.length,(vs.drop a.length).take n,by rw[k1,Nat.add_assoc],⟨k2,k2',fun ho=>?_⟩,?_,?_⟩
 ·have:=k2'' ho
  simp only[List.length_take]
  omega
 ·intro i v hi
  rw[List.getElem?_take] at hi
  split at hi
  ·rw[List.getElem?_drop] at hi
   have:=k3 _ _ hi
   rw[← Nat.add_assoc] at this
   exact this
  ·cases hi
 ·have h2:=(k4.drop a.length).take n
  rw[h] at h2
  rw[List.append_assoc,List.drop_left] at h2
  rw[List.take_append_of_le_length (by simp;omega)] at h2
  rw[List.take_take,Nat.min_self] at h2
  exact h2
def decN {α:Type}(f:List TV→Option (α×List TV)):Nat→List TV→Option (List α)
 |0,[]=>some []
 |0,_::_=>none
 |n+1,cs=>match f cs with
  |some (x,r)=>(decN f n r).map (x::·)
  |none=>none
def hd {α:Type}(f:TV→Option α):List TV→Option (α×List TV)
 |[]=>none
 |c::r=>match f c with
  |some x=>some (x,r)
  |none=>none
def dInt (k:IntKind):TV→Option Int
 |.int k' n=>if k=k' then some n else none
 |_=>none
def dBool :TV→Option Bool
 |.bool b=>some b
 |.tt=>some true
 |.ff=>some false
 |_=>none
def dStr :TV→Option (List UInt8)
 |.str s=>some s
 |_=>none
def dLst (e:Ty)(f:List TV→Option (El e×List TV)):TV→Option (List (El e))
 |.tl e' xs _=>vk0 e xs
 |.ll cs n _=>decN f n cs
 |_=>none
mutual
def dec :(t:Ty)→List TV→Option (El t×List TV)
 |.int k=>hd (dInt k)
 |.bool=>hd dBool
 |.str=>hd dStr
 |.list e=>hd (dLst e (dec e))
 |.st fs=>decs fs
def decs :(ts:List Ty)→List TV→Option (Els ts×List TV)
 |[]=>fun cs=>some ((),cs)
 |t::ts=>fun cs=>match dec t cs with
  |some (x,r)=>match decs ts r with
   |some (y,r2)=>some ((x,y),r2)
   |none=>none
  |none=>none
end
theorem uv3 {α:Type}{f:TV→Option α}{cs:List TV}{x:α}{r:List TV}(h:hd f cs=some (x,r)):∃ c,cs=c::r∧f c=some x:=by
 cases cs with
 |nil=>simp[hd] at h
 |cons c cs =>
  simp only[hd] at h
  split at h
  ·rename_i y hy;cases h;exact⟨c,rfl,hy⟩
  ·cases h
theorem w25 {a b:Ty}{x:List (El a)}{y:List (El b)}(h:vk0 b x=some y):∃ e:a=b,y=e ▸ x:=by
 unfold vk0 at h
 split at h
 ·rename_i e _;cases h;exact⟨e,rfl⟩
 ·cases h
theorem q54 {α β:Type}{x:Option α}{f:α→β}{y:β}(h:x.map f=some y):∃ a,x=some a∧f a=y:=by
 cases x with
 |none=>cases h
 |some a=>exact⟨a,rfl,by simpa using h⟩
theorem x98 {t:Ty}(f:List TV→Option (El t×List TV))(hf:∀ cs x r,f cs=some (x,r)→Wks (dns cs) (q50 t x++dns r)):∀ (n:Nat) (cs:List TV) (xs:List (El t)),decN f n cs=some xs→Wks (dns cs) (xs.flatMap (q50 t))∧xs.length=n
 |0,[],xs,h=>by simp only[decN,Option.some.injEq] at h;subst h;exact⟨.nil,rfl⟩
 |0,_::_,xs,h=>by simp[decN] at h
 |n+1,cs,xs,h=>by
  simp only[decN] at h
  split at h
  ·rename_i x r hx
   obtain⟨ys,h1,rfl⟩:=q54 h
   obtain⟨h2,h3⟩:=x98 f hf n r ys h1
   refine⟨(hf _ _ _ hx).trans ?_,by simp[h3]⟩
   rw[List.flatMap_cons]
   exact .app (.refl _) h2
  ·cases h
mutual
theorem wz6 :∀ (t:Ty) (cs:List TV) (x:El t) (r:List TV),dec t cs=some (x,r)→Wks (dns cs) (q50 t x++dns r)
 |.int k,cs,x,r,h=>by
  simp only[dec] at h
  obtain⟨c,rfl,h2⟩:=uv3 h
  clear h
  have h:=h2
  clear h2
  unfold dInt at h
  split at h
  ·split at h
   ·rename_i hk;subst hk;cases h;exact .refl _
   ·cases h
  ·cases h
 |.bool,cs,x,r,h=>by
  simp only[dec] at h
  obtain⟨c,rfl,h2⟩:=uv3 h
  clear h
  have h:=h2
  clear h2
  unfold dBool at h
  split at h<;>cases h<;>exact .refl _
 |.str,cs,x,r,h=>by
  simp only[dec] at h
  obtain⟨c,rfl,h2⟩:=uv3 h
  clear h
  have h:=h2
  clear h2
  unfold dStr at h
  split at h<;>cases h<;>exact .refl _
 |.list e,cs,x,r,h=>by
  simp only[dec] at h
  obtain⟨c,rfl,h2⟩:=uv3 h
  clear h
  have h:=h2
  clear h2
  unfold dLst at h
  split at h
  ·obtain⟨e1,h3⟩:=w25 h
   subst e1
   subst h3
   exact .cons (.unk (.refl _)) (.refl _)
  ·rename_i cs' n g
   obtain⟨h3,h4⟩:=x98 (dec e) (fun cs x r h=>wz6 e cs x r h) n cs' _ h
   refine .cons ?_ (.refl _)
   show Wk (.list (dns cs') n g) (.list _ _ .unk)
   rw[h4]
   exact .unk h3
  ·cases h
 |.st fs,cs,x,r,h=>by
  simp only[dec] at h
  exact vk4 fs cs x r h
theorem vk4 :∀ (ts:List Ty) (cs:List TV) (x:Els ts) (r:List TV),decs ts cs=some (x,r)→Wks (dns cs) (qb9 ts x++dns r)
 |[],cs,x,r,h=>by simp only[decs] at h;cases h;exact .refl _
 |t::ts,cs,x,r,h=>by
  simp only[decs] at h
  split at h
  ·rename_i y r1 h1
   split at h
   ·rename_i z r2' h2
    cases h
    have a1:=wz6 t cs y r1 h1
    have a2:=vk4 ts r1 z _ h2
    simp only[qb9]
    rw[List.append_assoc]
    exact a1.trans (.app (.refl _) a2)
   ·cases h
  ·cases h
end
def decV :(t:Ty)→TV→Option (El t)
 |.st fs=>fun v=>match v with
  |.agg cs=>match decs fs cs with
   |some (x,[])=>some x
   |_=>none
  |_=>none
 |.int k=>dInt k
 |.bool=>dBool
 |.str=>dStr
 |.list e=>dLst e (dec e)
def ks0 :(t:Ty)→El t→TV
 |.int k,n=>.int k n
 |.bool,b=>.bool b
 |.str,s=>.str s
 |.list e,xs=>.tl e xs .unk
 |.st fs,x=>.agg (xz4 fs x)
def aval (t:Ty)(x:El t):AV:=dn (ks0 t x)
theorem y12 {t:Ty}{v:TV}{x:El t}(h:decV t v=some x):Wk (dn v) (aval t x):=by
 cases t with
 |st fs =>
  simp only[decV] at h
  split at h
  ·rename_i cs
   split at h
   ·rename_i y hy
    cases h
    have:=vk4 fs cs x [] hy
    simp only[dns,List.append_nil] at this
    have e:aval (.st fs) x=.agg (qb9 fs x):=congrArg AV.agg (wt9 fs x)
    rw[e]
    exact .agg this
   ·cases h
  ·cases h
 |int k =>
  have h2:dec (.int k) [v]=some (x,[]):=by simp only[dec,hd];rw[show dInt k v=some x from h]
  have:=wz6 _ _ _ _ h2
  simp only[dns,List.append_nil,q50] at this
  cases this with|cons h1 _=>exact h1
 |bool =>
  have h2:dec .bool [v]=some (x,[]):=by simp only[dec,hd];rw[show dBool v=some x from h]
  have:=wz6 _ _ _ _ h2
  simp only[dns,List.append_nil,q50] at this
  cases this with|cons h1 _=>exact h1
 |str =>
  have h2:dec .str [v]=some (x,[]):=by simp only[dec,hd];rw[show dStr v=some x from h]
  have:=wz6 _ _ _ _ h2
  simp only[dns,List.append_nil,q50] at this
  cases this with|cons h1 _=>exact h1
 |list e =>
  have h2:dec (.list e) [v]=some (x,[]):=by simp only[dec,hd];rw[show dLst e (dec e) v=some x from h]
  have:=wz6 _ _ _ _ h2
  simp only[dns,List.append_nil,q50] at this
  cases this with|cons h1 _=>exact h1
theorem ka5 (t:Ty)(x:El t):(aval t x).mark=none:=by cases t<;>rfl
def u25 :Value→TV
 |.int k n=>.int k n
 |.bool b=>if b=true then .tt else .ff
 |.string s=>.str s.data.toList
 |.pointer a=>if a=none then .nilp else .undef
 |.slice a n c=>if a=none∧n=0∧c=0 then .ll [] 0 .full else .undef
 |.nilFunc=>.nilf
 |.func fn a b=>if a.size=0∧b.size=0 then .func fn [] else .undef
 |.tuple a=>if a.size=0 then .tup [] else .undef
 |_=>.undef
def tAbs :Value→TV
 |.agg cs=>.agg (cs.toList.map u25)
 |v=>u25 v
theorem us9 (v:Value):dn (u25 v)=vg4 v:=by
 cases v<;>simp only[u25,vg4]<;>(try split)<;>(try simp_all [dn,dns])
theorem dn_tAbs (v:Value):dn (tAbs v)=absV v:=by
 cases v<;>simp only[tAbs,absV]<;>first|exact us9 _|skip
 simp only[dn,qm9,List.map_map]
 congr 1
 apply List.map_congr_left
 intro a _
 exact us9 a
def q87 (fr:List TV):Operand→TV
 |.tmp t=>fr.getD t .undef
 |.const v=>tAbs v
 |.func f=>.func (.func f) []
 |.global _=>.undef
theorem w66 :∀ (fr:List TV) (t:Nat),(dns fr).getD t .undef=dn (fr.getD t .undef)
 |[],t=>by simp[dns,dn]
 |a::as,0=>by simp[dns]
 |a::as,t+1=>by simpa[dns] using w66 as t
theorem q64 (fr:List TV)(x:Operand):dn (q87 fr x)=q42 (dns fr) x:=by
 cases x with
 |tmp t=>simp only[q87,q42];rw[w66]
 |const v=>exact dn_tAbs v
 |func f=>rfl
 |global g=>rfl
theorem ut1 :∀ (fr:List TV) (d:Nat) (v:TV),dns (fr.set d v)=(dns fr).set d (dn v)
 |[],d,v=>rfl
 |a::as,0,v=>rfl
 |a::as,d+1,v=>by simp only[List.set_cons_succ,dns,ut1 as d v]
theorem qc0 :∀ fr:List TV,(dns fr).length=fr.length
 |[]=>rfl
 |a::as=>by simp[dns,qc0 as]
def tPut (fr:List TV)(d:Option Nat)(v:TV):List TV:=match d with
 |some d=>fr.set d v
 |none=>fr
theorem w08 (fr:List TV)(d:Option Nat)(v:TV):dns (tPut fr d v)=vg3 (dns fr) d (dn v):=by
 cases d with
 |none=>rfl
 |some d=>exact ut1 fr d v
inductive TOb where
 |cells (cs:List TV) (t:TypeId) (live:Bool)
 |tarr (ty:Ty) (xs:List (El ty)) (t:TypeId) (live:Bool)
def dnO :TOb→Ob
 |.cells cs t l=>⟨dns cs,t,l⟩
 |.tarr ty xs t l=>⟨xs.flatMap (q50 ty),t,l⟩
def dnS (s:List TOb):List Ob:=s.map dnO
theorem qk0 (s:List TOb)(i:Nat):(dnS s)[i]?=(s[i]?).map dnO:=by simp[dnS]
theorem q84 (s:List TOb):(dnS s).length=s.length:=by simp[dnS]
def gdP (g:Bool):Prop:=g=true
def qq3 :TV→TV
 |.tl t xs (.own _ _ _)=>.tl t xs .unk
 |.ll cs n (.own _ _ _)=>.ll cs n .unk
 |v=>v
theorem qo9 (v:TV):dn (qq3 v)=(dn v).plain:=by
 cases v<;>try rfl
 ·rename_i t xs g;cases g<;>rfl
 ·rename_i cs n g;cases g<;>rfl
theorem zo0 (l:List TV):dns (l.map qq3)=(dns l).map AV.plain:=by
 simp only[qm9,List.map_map]
 apply List.map_congr_left
 intro a _
 exact qo9 a
theorem wm0 :∀ (l:List TV) (n:Nat),dns (l.take n)=(dns l).take n
 |[],n=>by simp[dns]
 |a::l,0=>rfl
 |a::l,n+1=>by simp only[List.take_succ_cons,dns,wm0 l n]
theorem wl9 :∀ (l:List TV) (n:Nat),dns (l.drop n)=(dns l).drop n
 |[],n=>by simp[dns]
 |a::l,0=>rfl
 |a::l,n+1=>by simp only[List.drop_succ_cons,dns,wl9 l n]
theorem ut0 (l:List TV)(i:Nat):(dns l)[i]?=(l[i]?).map dn:=by rw[qm9];simp
def asB :TV→Option Bool
 |.bool b=>some b
 |.tt=>some true
 |.ff=>some false
 |_=>none
theorem x74 {v:TV}{b:Bool}(h:asB v=some b):dn v=.bool b:=by
 unfold asB at h;split at h<;>cases h<;>rfl
def q24 :Int→Bool
 |.ofNat n=>Nat.ble n 9223372036854775807
 |.negSucc n=>Nat.ble n 9223372036854775807
theorem kd8 (n:Int):q24 n=true↔-9223372036854775808≤n∧n≤9223372036854775807:=by
 cases n with
 |ofNat n=>simp only[q24,Nat.ble_eq];simp only[Int.ofNat_eq_natCast];omega
 |negSucc n=>simp only[q24,Nat.ble_eq];omega
def qr1 (n m:Nat):Bool:=Nat.ble n m
theorem uv0 (n m:Nat):qr1 n m=true↔n≤m:=by simp only[qr1,Nat.ble_eq]
def qj1 (a b:List UInt8):Bool:=Nat.ble (a.length+b.length) 9223372036854775807
theorem x82 (a b:List UInt8):qj1 a b=true↔a.length+b.length≤9223372036854775807:=by simp only[qj1,Nat.ble_eq]
def jz5 (bytes:Nat)(n m:Int):Bool:=(n==m)&&match n with
 |.ofNat k=>Nat.ble (bytes*k) 281474976710656&&Nat.ble k 9223372036854775807
 |.negSucc _=>false
theorem jg3 (bytes:Nat)(n m:Int):jz5 bytes n m=true↔n=m∧0≤n∧(bytes:Int)*n≤281474976710656∧n≤9223372036854775807:=by
 unfold jz5
 cases n with
 |ofNat k =>
  simp only[Bool.and_eq_true,beq_iff_eq,Nat.ble_eq,Int.ofNat_eq_natCast]
  rw[← Int.natCast_mul]
  omega
 |negSucc k=>simp only[Bool.and_false,Bool.false_eq_true,false_iff];omega
def tW (wr:Bool)(k:IntKind)(n:Int):Bool×Int:=match wr,k with
 |false,.i64=>(q24 n,n)
 |_,k=>(true,k.wrap n)
theorem k51 {wr:Bool}{k:IntKind}{n:Int}(h:(tW wr k n).1=true):(tW wr k n).2=k.wrap n:=by
 unfold tW at h ⊢
 split
 ·have h2:=(kd8 n).1 h
  rw[IntKind.wrap_i64]
  omega
 ·rfl
def tIntOp (wr:Bool)(op:BinOp)(k:IntKind)(a b:Int):Option (Bool×TV) :=
 match op with
 |.add=>some ((tW wr k (a+b)).1,.int k (tW wr k (a+b)).2)
 |.sub=>some ((tW wr k (a-b)).1,.int k (tW wr k (a-b)).2)
 |.mul=>some ((tW wr k (a*b)).1,.int k (tW wr k (a*b)).2)
 |.quo=>some (decide (b≠0)&&(tW wr k (a.tdiv b)).1,.int k (tW wr k (a.tdiv b)).2)
 |.rem=>some (decide (b≠0),.int k (a.tmod b))
 |.eql=>some (true,.bool (a==b))
 |.neq=>some (true,.bool (a != b))
 |.lss=>some (true,.bool (decide (a<b)))
 |.leq=>some (true,.bool (decide (a≤b)))
 |.gtr=>some (true,.bool (decide (a>b)))
 |.geq=>some (true,.bool (decide (a≥b)))
 |.and=>some (true,.int k (za6 .and k a b))
 |.or=>some (true,.int k (za6 .or k a b))
 |.xor=>some (true,.int k (za6 .xor k a b))
 |_=>none
def tShift (op:BinOp)(k:IntKind)(a b:Int):Option (Bool×TV) :=
 match op with
 |.shl=>some (!(decide (b<0)),.int k (ku5 k a b))
 |.shr=>some (!(decide (b<0)),.int k (qn3 k a b))
 |_=>none
def tStrOp (op:BinOp)(a b:List UInt8):Option (Bool×TV) :=
 match op with
 |.add=>some (qj1 a b,.str (a++b))
 |.eql=>some (true,.bool (a==b))
 |.neq=>some (true,.bool (!(a==b)))
 |.lss=>some (true,.bool (Op.bytesLess a b))
 |.leq=>some (true,.bool (Op.bytesLess a b||a==b))
 |.gtr=>some (true,.bool (!(Op.bytesLess a b||a==b)))
 |.geq=>some (true,.bool (!(Op.bytesLess a b)))
 |_=>none
def tBoolOp (P:Program)(t:TypeId)(op:BinOp)(a b:Bool):Option (Bool×TV) :=
 match P.underlying t,op with
 |some .bool,.eql=>some (true,.bool (a==b))
 |some .bool,.neq=>some (true,.bool (!(a==b)))
 |_,_=>none
def tEqF (P:Program)(f:TypeId→List TV→List TV→Option Bool):List Field→List TV→List TV→Option Bool
 |[],_,_=>some true
 | g :: gs, cs, ds => if g.name ≠ "_" then
   match P.info? g.type with
   |some i=>match f g.type ((cs.drop g.offset).take i.size) ((ds.drop g.offset).take i.size) with
    |some a=>match tEqF P f gs cs ds with
     |some b=>some (a&&b)
     |none=>none
    |none=>none
   |none=>none
  else tEqF P f gs cs ds
def tEqT (P:Program):Nat→TypeId→List TV→List TV→Option Bool
 |0,_,_,_=>none
 |d+1,t,cs,ds=>match P.underlying t with
  |some (.struct fs)=>if P.stoodInHeld t=true then none else tEqF P (tEqT P d) fs.toList cs ds
  |some .bool=>match cs,ds with
   |[a],[b]=>match asB a,asB b with
    |some a,some b=>some (a==b)
    |_,_=>none
   |_,_=>none
  |some (.int _)=>match cs,ds with
   |[.int k a],[.int k' b]=>if k=k' then some (a==b) else none
   |_,_=>none
  |some .string=>match cs,ds with
   |[.str a],[.str b]=>some (a==b)
   |_,_=>none
  |_=>none
theorem dns_sub (cs:List TV)(o n:Nat):dns ((cs.drop o).take n)=((dns cs).drop o).take n:=by simp[qm9,List.map_take,List.map_drop]
theorem u27 {P:Program}{f:TypeId→List TV→List TV→Option Bool}{f':TypeId→List AV→List AV→Option Bool}(hf:∀ t cs ds r,f t cs ds=some r→f' t (dns cs) (dns ds)=some r):∀ (gs:List Field) (cs ds:List TV) (r:Bool),tEqF P f gs cs ds=some r→aEqF P f' gs (dns cs) (dns ds)=some r
 |[],cs,ds,r,h=>h
 |g::gs,cs,ds,r,h=>by
  simp only[tEqF] at h
  simp only[aEqF]
  split at h
  ·rename_i hn
   rw[if_pos hn]
   split at h
   ·rename_i i hi
    simp only[hi]
    split at h
    ·rename_i a ha
     have h1:=hf _ _ _ _ ha
     rw[dns_sub,dns_sub] at h1
     split at h
     ·rename_i b hb
      have h2:=u27 hf gs cs ds b hb
      rw[h1,h2]
      exact h
     ·cases h
    ·cases h
   ·cases h
  ·rename_i hn
   rw[if_neg hn]
   exact u27 hf gs cs ds r h
theorem u28 {P:Program}:∀ (d:Nat) (t:TypeId) (cs ds:List TV) (r:Bool),tEqT P d t cs ds=some r→aEqT P d t (dns cs) (dns ds)=some r
 |0,_,_,_,_,h=>by cases h
 |d+1,t,cs,ds,r,h=>by
  unfold tEqT at h
  unfold aEqT
  split at h
  ·rename_i fs hu
   simp only[hu]
   split at h
   ·cases h
   ·rename_i hs
    rw[if_neg hs]
    exact u27 (fun t cs ds r h=>u28 d t cs ds r h) _ _ _ _ h
  ·rename_i hu
   simp only[hu]
   split at h
   ·split at h
    ·rename_i ha hb
     simp only[dns,x74 ha,x74 hb,aEq1]
     exact h
    ·cases h
   ·cases h
  ·rename_i k hu
   simp only[hu]
   split at h
   ·simp only[dns,dn,aEq1];exact h
   ·cases h
  ·rename_i hu
   simp only[hu]
   split at h
   ·simp only[dns,dn,aEq1];exact h
   ·cases h
  ·cases h
def tBin (P:Program)(wr:Bool)(t:TypeId)(op:BinOp)(x y:TV):Option (Bool×TV) :=
 match x,y with
 |.int k a,.int k' b=>match tShift op k a b with
  |some r=>some r
  |none=>if k=k' then tIntOp wr op k a b else none
 |.str a,.str b=>tStrOp op a b
 |.nilp,.nilp=>match P.underlying t,op with
  |some (.pointer _),.eql=>some (true,.tt)
  |some (.pointer _),.neq=>some (true,.ff)
  |_,_=>none
 |.ref _ _,.nilp=>match P.underlying t,op with
  |some (.pointer _),.eql=>some (true,.ff)
  |some (.pointer _),.neq=>some (true,.tt)
  |_,_=>none
 |.agg cs,.agg ds=>match P.underlying t with
  |some (.struct _)=>if P.eqGuardType P.depth t=false then
    match op with
    |.eql=>match tEqT P 20 t cs ds with
     |some b=>some (true,.bool b)
     |none=>none
    |.neq=>match tEqT P 20 t cs ds with
     |some b=>some (true,.bool (!b))
     |none=>none
    |_=>none
   else none
  |_=>none
 |x,y=>match asB x,asB y with
  |some a,some b=>tBoolOp P t op a b
  |_,_=>none
theorem tBin_spec {P:Program}{wr:Bool}{t:TypeId}{op:BinOp}{x y v:TV}{g:Bool}(h:tBin P wr t op x y=some (g,v))(hg:gdP g):aBin P t op (dn x) (dn y)=some (dn v):=by
 unfold tBin at h
 split at h
 ·split at h
  ·rename_i r hsh
   cases h
   unfold tShift at hsh
   split at hsh<;>cases hsh<;>simp only[gdP,Bool.not_eq_true',decide_eq_false_iff_not] at hg<;>simp[dn,aBin,q4o,hg]
  rename_i hsh
  have hsh':∀ k' a' b',q4o op k' a' b'=none:=by
   intro k' a' b'
   cases op<;>first
    |rfl
    |cases hsh
  split at h
  ·rename_i hk
   subst hk
   simp only[dn,aBin,hsh',if_true]
   unfold tIntOp at h
   split at h<;>cases h<;>simp only[aIntOp,dn]<;>simp only[gdP,decide_eq_true_eq,Bool.and_eq_true] at hg<;>first
    |(rw[k51 hg];done)
    |(rw[k51 hg.2];simp[hg.1];done)
    |simp[hg]
  ·cases h
 ·simp only[dn,aBin]
  unfold tStrOp at h
  split at h<;>cases h<;>simp only[aStrOp,dn]<;>simp only[gdP,x82] at hg<;>simp[hg]
 ·simp only[dn,aBin]
  split at h<;>cases h<;>simp[*,dn]
 ·simp only[dn,aBin]
  split at h<;>cases h<;>simp[*,dn]
 ·simp only[dn,aBin]
  split at h
  ·rename_i fs hu
   simp only[hu]
   split at h
   ·rename_i hgd
    rw[if_pos hgd]
    split at h
    ·split at h
     ·rename_i b hb;cases h;rw[u28 _ _ _ _ _ hb];rfl
     ·cases h
    ·split at h
     ·rename_i b hb;cases h;rw[u28 _ _ _ _ _ hb];rfl
     ·cases h
    ·cases h
   ·cases h
  ·cases h
 ·split at h
  ·rename_i a b ha hb
   rw[x74 ha,x74 hb]
   simp only[aBin]
   unfold tBoolOp at h
   split at h<;>cases h<;>simp[*,dn]
  ·cases h
def tUn (wr:Bool)(op:UnOp)(x:TV):Option (Bool×TV) :=
 match op,x with
 |.neg,.int k n=>some ((tW wr k (0-n)).1,.int k (tW wr k (0-n)).2)
 |.not,.tt=>some (true,.ff)
 |.not,.ff=>some (true,.tt)
 |.not,.bool b=>some (true,.bool (!b))
 |_,_=>none
theorem tUn_spec {wr:Bool}{op:UnOp}{x v:TV}{g:Bool}(h:tUn wr op x=some (g,v))(hg:gdP g):aUn op (dn x)=some (dn v):=by
 unfold tUn at h
 split at h<;>cases h<;>first
  |rfl
  |(simp only[dn,aUn];rw[k51 hg])
def w02 (ns:List Int):List UInt8:=ns.map fun n=>UInt8.ofNat n.toNat
theorem q4t :∀ (xs:List (El (.int .u8))),(xs.flatMap (q50 (.int .u8))).mapM jz4=some (w02 xs)
 |[]=>rfl
 |x::xs=>by
  have ih:=q4t xs
  show (AV.int .u8 x::xs.flatMap (q50 (.int .u8))).mapM jz4=_
  rw[List.mapM_cons,ih]
  rfl
def tConv (P:Program)(wr:Bool)(src dst:TypeId)(x:TV):Option (Bool×TV) :=
 match x with
 |.str b=>match P.underlying src,P.underlying dst with
  |some .string,some .string=>some (true,.str b)
  |_,_=>none
 |.tl (.int .u8) xs _=>match P.underlying src,P.underlying dst with
  |some (.slice e),some .string=>match P.underlying e with
   |some (.int .u8)=>some (true,.str (w02 xs))
   |_=>none
  |_,_=>none
 |.int _ n=>match P.underlying src,P.underlying dst with
  |some _,some (.int k)=>some ((tW wr k n).1,.int k (tW wr k n).2)
  |_,_=>none
 |_=>none
theorem w1u {P:Program}{wr:Bool}{src dst:TypeId}{x v:TV}{g:Bool}(h:tConv P wr src dst x=some (g,v))(hg:gdP g):kv7 P src dst (dn x)=some (dn v):=by
 unfold tConv at h
 split at h
 ·split at h
  ·cases h;simp only[dn,kv7, *]
  ·cases h
 ·rename_i xs gt
  split at h
  ·rename_i e h1 h2
   split at h
   ·rename_i h3
    cases h
    simp only[dn,kv7,h1,h2,h3]
    have hl:(xs.flatMap (q50 (.int .u8))).length=xs.length:=by
     have:=qx7 (t:=.int .u8) xs
     rw[this]
     exact Nat.mul_one _
    refine(if_pos hl).trans ?_
    rw[q4t xs]
    rfl
   ·cases h
  ·cases h
 ·split at h
  ·cases h;simp only[dn,kv7, *];rw[k51 hg]
  ·cases h
 ·cases h
def w1v (P:Program)(t:TypeId)(cs:List TV)(o:Nat):Option TV :=
 match j15 P t with
 |some (some n)=>if o+n≤cs.length then some (.agg (((cs.drop o).take n).map qq3)) else none
 |some none=>cs[o]?
 |none=>none
theorem yk5 {P:Program}{t:TypeId}{cs:List TV}{o:Nat}{v:TV}(h:w1v P t cs o=some v):jt3 P t (dns cs) o=some (dn v):=by
 unfold w1v at h
 unfold jt3
 split at h
 ·rename_i n hn
  simp only[hn]
  split at h
  ·rename_i hl
   cases h
   rw[qc0,if_pos hl]
   simp only[dn,zo0,wm0,wl9]
  ·cases h
 ·rename_i hn
  simp only[hn]
  rw[ut0,h]
  rfl
 ·cases h
theorem yh5 {t:Ty}(xs:List (El t))(i:Nat)(h:i<xs.length):∃ a c,xs.flatMap (q50 t)=a++c∧a.length=i*t.size∧c.take t.size=q50 t (xs.getD i (dflt t))∧t.size≤c.length:=by
 refine⟨(xs.take i).flatMap (q50 t),(xs.drop i).flatMap (q50 t),?_,?_,?_,?_⟩
 ·rw[← List.flatMap_append,List.take_append_drop]
 ·rw[qx7,List.length_take,Nat.min_eq_left (Nat.le_of_lt h)]
 ·rw[List.drop_eq_getElem_cons h,List.flatMap_cons,List.take_append_of_le_length (by rw[qd7];exact Nat.le_refl _),List.take_of_length_le (by rw[qd7];exact Nat.le_refl _)]
  simp[h]
 ·rw[qx7,List.length_drop]
  have:1≤xs.length-i:=by omega
  have:=Nat.mul_le_mul_right t.size this
  omega
theorem kv8 {P:Program}{t:TypeId}{a c:List AV}{n o:Nat}{v:AV}(hn:n≤c.length)(h:jt3 P t (c.take n) o=some v):jt3 P t (a++c) (a.length+o)=some v:=by
 unfold jt3 at h ⊢
 split at h
 ·rename_i m hm
  split at h
  ·rename_i hl
   cases h
   rw[List.length_take] at hl
   rw[List.length_append,if_pos (by omega)]
   congr 2
   rw[List.drop_append,List.drop_of_length_le (by omega),List.nil_append,Nat.add_sub_cancel_left,List.drop_take,List.take_take,Nat.min_eq_left (by omega)]
  ·cases h
 ·rename_i hm
  rw[List.getElem?_append_right (by omega),Nat.add_sub_cancel_left]
  rw[List.getElem?_take] at h
  split at h
  ·exact h
  ·cases h
 ·cases h
def q2v (P:Program)(s:List TOb)(t:TypeId)(x:TV):Option (Bool×TV) :=
 match x with
 |.ref i k=>match s[i]? with
  |some (.cells cs _ l)=>if l=true then (w1v P t cs k).map fun v=>(true,v) else none
  |_=>none
 |.ep cs k=>(w1v P t cs k).map fun v=>(true,qq3 v)
 |.ap i ix sz o=>match s[i]? with
  |some (.tarr ty xs _ l)=>if l=true∧sz=ty.size then (w1v P t (up1 ty (xs.getD ix.toNat (dflt ty))) o).map fun v=>(decide (0≤ix∧ix<xs.length),v) else none
  |_=>none
 |_=>none
theorem kr5 {P:Program}{s:List TOb}{t:TypeId}{x v:TV}{g:Bool}(h:q2v P s t x=some (g,v))(hg:gdP g):xm2 P (dnS s) t (dn x)=some (dn v):=by
 unfold q2v at h
 split at h
 ·rename_i i k
  split at h
  ·rename_i cs t' l hs
   split at h
   ·rename_i hl
    obtain⟨u,h1,h2⟩:=q54 h
    cases h2
    simp only[dn,xm2,qk0,hs,Option.map_some,dnO,hl,if_true]
    exact yk5 h1
   ·cases h
  ·cases h
 ·rename_i cs k
  obtain⟨u,h1,h2⟩:=q54 h
  cases h2
  simp only[dn,xm2]
  rw[yk5 h1]
  simp[qo9]
 ·rename_i i ix sz o
  split at h
  ·rename_i ty xs t' l hs
   split at h
   ·rename_i hc
    obtain⟨hl,hsz⟩:=hc
    obtain⟨u,h1,h2⟩:=q54 h
    cases h2
    simp only[gdP,decide_eq_true_eq] at hg
    simp only[dn,xm2,qk0,hs,Option.map_some,dnO,hl,if_true]
    obtain⟨a,c,e1,e2,e3,e4⟩:=yh5 xs ix.toNat (by omega)
    have h3:=yk5 h1
    rw[yh2,← e3] at h3
    rw[e1,hsz,← e2]
    exact kv8 e4 h3
   ·cases h
  ·cases h
 ·cases h
def tNil (x:TV):Option (Bool×TV):=match x with
 |.ref _ _|.ep _ _|.ap _ _ _ _=>some (true,x)
 |_=>none
def xz3 (P:Program)(t:TypeId)(x:TV)(f:Nat):Option (Bool×TV) :=
 match x with
 |.ref i k=>(jy9 P t f).map fun r=>(true,.ref i (k+r.1))
 |.ep cs k=>(jy9 P t f).map fun r=>(true,.ep cs (k+r.1))
 |.ap i ix sz k=>(jy9 P t f).map fun r=>(true,.ap i ix sz (k+r.1))
 |_=>none
theorem u29 {P:Program}{t:TypeId}{x v:TV}{f:Nat}{g:Bool}(h:xz3 P t x f=some (g,v)):zn8 P t (dn x) f=some (dn v):=by
 unfold xz3 at h
 split at h
 ·obtain⟨r,h1,h2⟩:=q54 h;cases h2;simp[dn,zn8,h1]
 ·obtain⟨r,h1,h2⟩:=q54 h;cases h2;simp[dn,zn8,h1]
 ·obtain⟨r,h1,h2⟩:=q54 h;cases h2;simp[dn,zn8,h1,Nat.add_assoc]
 ·cases h
def yk4 (P:Program)(t:TypeId)(x y:TV):Option (Bool×TV) :=
 match x,y with
 |.tl ty xs g,.int _ ix=>match wr5 P t with
  |some (_,size)=>if size=ty.size then some (decide (0≤ix∧ix<xs.length),.ep (up1 ty (xs.getD ix.toNat (dflt ty))) 0) else none
  |none=>none
 |.ll cs n g,.int _ ix=>match wr5 P t with
  |some (_,size)=>if 0≤ix∧ix<n∧cs.isEmpty=false then some (true,.ep cs (ix.toNat*size)) else none
  |none=>none
 |.arr i n,.int _ ix=>match wr5 P t with
  |some (_,size)=>some (decide (0≤ix∧ix<n),.ap i ix size 0)
  |none=>none
 |.ref i k,.int _ ix=>match P.underlying t with
  |some (.array n e)=>match P.info? e with
   |some inf=>some (decide (0≤ix∧ix<n),.ref i (k+ix.toNat*inf.size))
   |none=>none
  |_=>none
 |_,_=>none
theorem u30 {P:Program}{t:TypeId}{x y v:TV}{g:Bool}(h:yk4 P t x y=some (g,v))(hg:gdP g):∃ a,wt8 P t (dn x) (dn y)=some a∧Wk a (dn v):=by
 unfold yk4 at h
 split at h
 ·rename_i ty xs gt kd ix
  split at h
  ·rename_i e size he
   split at h
   ·rename_i hsz
    cases h
    simp only[gdP,decide_eq_true_eq] at hg
    have hlt:ix.toNat<xs.length:=by omega
    obtain⟨a,c,e1,e2,e3,e4⟩:=yh5 xs ix.toNat hlt
    obtain⟨_,i',_,_,hpos⟩:=qz5 he
    refine⟨.eptr (xs.flatMap (q50 ty)) (ix.toNat*size),?_,?_⟩
    ·simp only[dn,wt8,he]
     have hl:0<(xs.flatMap (q50 ty)).length:=by
      rw[qx7];exact Nat.mul_pos (by omega) (by omega)
     have hne:(xs.flatMap (q50 ty)).isEmpty=false:=by
      cases hq:xs.flatMap (q50 ty) with
      |nil=>rw[hq] at hl;simp at hl
      |cons=>rfl
     rw[if_pos ⟨hg.1,hg.2,hne⟩]
    ·simp only[dn]
     rw[hsz,← e2,yh2,← e3]
     have:=Wk.eptr (cs:=xs.flatMap (q50 ty)) (a:=a) (c:=c) (n:=ty.size) (o:=0) (by rw[List.append_assoc,List.take_append_drop];exact e1) e4
     simpa using this
   ·cases h
  ·cases h
 ·rename_i cs n gt kd ix
  split at h
  ·rename_i e size he
   split at h
   ·rename_i hc
    cases h
    refine⟨_,?_,.refl _⟩
    simp only[dn,wt8,he]
    have hne:(dns cs).isEmpty=false:=by
     cases cs with
     |nil=>simp at hc
     |cons=>rfl
    rw[if_pos ⟨hc.1,hc.2.1,hne⟩]
   ·cases h
  ·cases h
 ·rename_i i n kd ix
  split at h
  ·rename_i e size he
   cases h
   simp only[gdP,decide_eq_true_eq] at hg
   refine⟨_,?_,.refl _⟩
   simp only[dn,wt8,he]
   rw[if_pos hg]
   rfl
  ·cases h
 ·rename_i i k kd ix
  split at h
  ·rename_i n e hu
   split at h
   ·rename_i inf hi
    cases h
    simp only[gdP,decide_eq_true_eq] at hg
    refine⟨_,?_,.refl _⟩
    simp only[dn,wt8,hu,hi]
    rw[if_pos hg]
   ·cases h
  ·cases h
 ·cases h
def tIndex (P:Program)(t:TypeId)(x y:TV):Option (Bool×TV) :=
 match x,y with
 |.str l,.int _ ix=>match P.underlying t with
  |some .string=>some (decide (0≤ix∧ix<l.length),.int .u8 ((l.getD ix.toNat 0).toNat:Int))
  |_=>none
 |_,_=>none
theorem q2u {P:Program}{t:TypeId}{x y v:TV}{g:Bool}(h:tIndex P t x y=some (g,v))(hg:gdP g):uf8 P t (dn x) (dn y)=some (dn v):=by
 unfold tIndex at h
 split at h
 ·rename_i l kd ix
  split at h
  ·rename_i hu
   cases h
   simp only[gdP,decide_eq_true_eq] at hg
   have hlt:ix.toNat<l.length:=by omega
   simp only[dn,uf8,hu]
   rw[if_pos hg.1]
   simp[hlt]
  ·cases h
 ·cases h
def asI :TV→Option Int
 |.int _ n=>some n
 |_=>none
def xz2 (n:Nat)(lo hi:Option TV):Option Bool :=
 match lo,hi with
 |none,none=>some true
 |some a,none=>(asI a).map fun (a:Int)=>decide (0≤a∧a≤(n:Int))
 |none,some b=>(asI b).map fun (b:Int)=>decide (0≤b∧b≤(n:Int))
 |some a,some b=>match asI a,asI b with
  |some a,some b=>some (decide (0≤a∧a≤b∧b≤(n:Int)))
  |_,_=>none
def q2w {α:Type}(xs:List α)(lo hi:Option TV):List α :=
 let ys:=match hi with
  |some b=>match asI b with
   |some b=>xs.take b.toNat
   |none=>xs
  |none=>xs
 match lo with
 |some a=>match asI a with
  |some a=>ys.drop a.toNat
  |none=>ys
 |none=>ys
def tSlice (P:Program)(t:TypeId)(x:TV)(lo hi:Option TV):Option (Bool×TV) :=
 match x with
 |.tl ty xs g=>match wr5 P t with
  |some (_,size)=>if size=ty.size then (xz2 xs.length lo hi).map fun p=>(p,.tl ty (q2w xs lo hi) .unk) else none
  |none=>none
 |.str b=>match P.underlying t with
  |some .string=>(xz2 b.length lo hi).map fun p=>(p,.str (q2w b lo hi))
  |_=>none
 |_=>none
theorem v88 {α:Type}{fr:List TV}{lo hi:Option Operand}(xs:List α){g:Bool}(h:xz2 xs.length (lo.map (q87 fr)) (hi.map (q87 fr))=some g)(hg:gdP g):
  ∃ l h',qy5 (dns fr) 0 lo=some l∧qy5 (dns fr) xs.length hi=some h'∧l≤h'∧h'≤xs.length∧q2w xs (lo.map (q87 fr)) (hi.map (q87 fr))=(xs.take h').drop l:=by
 have key:∀ (x:Operand) (n:Int) (d:Nat),asI (q87 fr x)=some n→0≤n→qy5 (dns fr) d (some x)=some n.toNat:=by
  intro x n d hx h0
  unfold asI at hx
  split at hx
  ·rename_i k m hm
   cases hx
   simp only[qy5,← q64,hm,dn]
   rw[if_pos h0]
  ·cases hx
 cases lo with
 |none =>
  cases hi with
  |none =>
   refine⟨0,xs.length,rfl,rfl,by omega,by omega,?_⟩
   simp[q2w]
  |some y =>
   simp only[Option.map_none,Option.map_some,xz2] at h
   obtain⟨b,h1,rfl⟩:=q54 h
   simp only[gdP,decide_eq_true_eq] at hg
   refine⟨0,b.toNat,rfl,key y b _ h1 hg.1,by omega,by omega,?_⟩
   simp[q2w,h1]
 |some x =>
  cases hi with
  |none =>
   simp only[Option.map_none,Option.map_some,xz2] at h
   obtain⟨a,h1,rfl⟩:=q54 h
   simp only[gdP,decide_eq_true_eq] at hg
   refine⟨a.toNat,xs.length,key x a _ h1 hg.1,rfl,by omega,by omega,?_⟩
   simp[q2w,h1]
  |some y =>
   simp only[Option.map_some,xz2] at h
   split at h
   ·rename_i a b h1 h2
    cases h
    simp only[gdP,decide_eq_true_eq] at hg
    refine⟨a.toNat,b.toNat,key x a _ h1 hg.1,key y b _ h2 (by omega),by omega,by omega,?_⟩
    simp[q2w,h1,h2]
   ·cases h
theorem kd3 {t:Ty}(xs:List (El t))(h:Nat):(xs.flatMap (q50 t)).take (h*t.size)=(xs.take h).flatMap (q50 t):=by
 induction xs generalizing h with
 |nil=>simp
 |cons x xs ih =>
  cases h with
  |zero=>simp
  |succ h =>
   rw[List.flatMap_cons,List.take_succ_cons,List.flatMap_cons,Nat.succ_mul,Nat.add_comm (h*t.size)]
   rw[List.take_append,List.take_of_length_le (by rw[qd7];omega),qd7,Nat.add_sub_cancel_left,ih]
theorem kd2 {t:Ty}(xs:List (El t))(h:Nat):(xs.flatMap (q50 t)).drop (h*t.size)=(xs.drop h).flatMap (q50 t):=by
 induction xs generalizing h with
 |nil=>simp
 |cons x xs ih =>
  cases h with
  |zero=>simp
  |succ h =>
   rw[List.flatMap_cons,List.drop_succ_cons,Nat.succ_mul,Nat.add_comm (h*t.size)]
   rw[List.drop_append,List.drop_of_length_le (by rw[qd7];omega),qd7,Nat.add_sub_cancel_left,ih,List.nil_append]
theorem q2x {P:Program}{fr:List TV}{t:TypeId}{x:Operand}{lo hi:Option Operand}{v:TV}{g:Bool}(h:tSlice P t (q87 fr x) (lo.map (q87 fr)) (hi.map (q87 fr))=some (g,v))(hg:gdP g):∃ a,uf9 P (dns fr) t x lo hi=some a∧WkM a (dn v):=by
 unfold tSlice at h
 split at h
 ·rename_i ty xs gt hx
  split at h
  ·rename_i e size he
   split at h
   ·rename_i hsz
    obtain⟨p,h1,h2⟩:=q54 h
    cases h2
    obtain⟨l,h',k1,k2,k3,k4,k5⟩:=v88 xs h1 hg
    unfold uf9
    rw[← q64,hx]
    simp only[dn,he,k1,k2]
    rw[if_pos ⟨k3,k4⟩]
    refine⟨_,rfl,.of ?_ rfl⟩
    subst hsz
    rw[kd3,kd2,k5]
    have e:h'-l=((xs.take h').drop l).length:=by simp;omega
    rw[e]
    exact .unk (.refl _)
   ·cases h
  ·cases h
 ·rename_i b hx
  split at h
  ·rename_i hu
   obtain⟨p,h1,h2⟩:=q54 h
   cases h2
   obtain⟨l,h',k1,k2,k3,k4,k5⟩:=v88 b h1 hg
   unfold uf9
   rw[← q64,hx]
   simp only[dn,hu,k1,k2]
   rw[if_pos ⟨k3,k4⟩]
   exact⟨_,rfl,by rw[k5];exact .refl _⟩
  ·cases h
 ·cases h
def tLen (P:Program)(t:TypeId)(x:TV):Option (Bool×TV) :=
 match x with
 |.tl _ xs _=>match P.underlying t with
  |some (.slice _)=>some (true,.int .i64 xs.length)
  |_=>none
 |.ll _ n _=>match P.underlying t with
  |some (.slice _)=>some (true,.int .i64 n)
  |_=>none
 |.arr _ n=>match P.underlying t with
  |some (.slice _)=>some (true,.int .i64 n)
  |_=>none
 |.str b=>match P.underlying t with
  |some .string=>some (true,.int .i64 b.length)
  |_=>none
 |_=>none
theorem tLen_spec {P:Program}{t:TypeId}{x v:TV}{g:Bool}(h:tLen P t x=some (g,v)):aLen P t (dn x)=some (dn v):=by
 unfold tLen at h
 split at h<;>first|(split at h<;>cases h<;>simp only[dn,aLen, *])|cases h
def q2z :TV→Option (List TV)
 |.agg cs=>some (cs.map qq3)
 |.undef|.tup _=>none
 |.ap _ _ _ _=>none
 |a=>some [qq3 a]
theorem kz6 (a:AV):a.plain.plain=a.plain:=by
 cases a<;>try rfl
 rename_i cs n g
 cases g<;>rfl
theorem kr7 {v:TV}{cs:List TV}(h:q2z v=some cs):(zx1 (dn v)).map (fun l=>l.map AV.plain)=some (dns cs):=by
 unfold q2z at h
 split at h
 ·cases h
  simp only[dn,zx1,Option.map_some,zo0,List.map_map]
  congr 1
  apply List.map_congr_left
  intro a _
  exact kz6 a
 ·cases h
 ·cases h
 ·cases h
 ·rename_i h1 h2 h3 h4
  cases h
  cases v<;>first
   |exact absurd rfl (h1 _)
   |exact absurd rfl h2
   |exact absurd rfl (h3 _)
   |exact absurd rfl (h4 _ _ _ _)
   |(simp only[dns,qo9];rfl)
def u36 (cs:List TV)(k:Nat)(new:List TV):List TV:=cs.take k++new++cs.drop (k+new.length)
theorem yw1 (cs:List TV)(k:Nat)(new:List TV):dns (u36 cs k new)=wk8 (dns cs) k (dns new):=by
 simp only[u36,wk8,y13,wm0,wl9,qc0]
def q2s (place:Nat→Option (Nat×Nat))(cells:List TV):List (Nat×TV)→Option (List TV)
 |[]=>some cells
 |(i,v)::rest =>
  match place i with
  |none=>none
  |some (off,size)=>match q2z v with
   |none=>none
   |some vs=>if vs.length≠size∨cells.length<off+vs.length then none else q2s place (u36 cells off vs) rest
theorem yk3 (place:Nat→Option (Nat×Nat)):∀ (parts:List (Nat×TV)) (cells cs:List TV),q2s place cells parts=some cs →
  ∃ ps,xq0 (parts.map fun p=>(p.1,dn p.2))=some ps∧va7 place (dns cells) ps=some (dns cs)
 |[],cells,cs,h=>by simp only[q2s,Option.some.injEq] at h;subst h;exact⟨[],by simp[xq0],rfl⟩
 |(i,v)::rest,cells,cs,h=>by
  simp only[q2s] at h
  split at h
  ·cases h
  ·rename_i off size hp
   split at h
   ·cases h
   ·rename_i vs hv
    split at h
    ·cases h
    ·rename_i hc
     obtain⟨ps,h1,h2⟩:=yk3 place rest _ cs h
     have h3:=kr7 hv
     cases h4:zx1 (dn v) with
     |none=>rw[h4] at h3;cases h3
     |some l =>
      rw[h4] at h3
      simp only[Option.map_some,Option.some.injEq] at h3
      refine⟨(i,dns vs)::ps,?_,?_⟩
      ·unfold xq0 at h1 ⊢
       simp only[List.map_cons,List.mapM_cons]
       rw[h4,h1]
       simp[h3]
      ·simp only[va7,hp]
       rw[qc0,qc0,if_neg hc,← yw1]
       exact h2
def uo7 (fr:List TV)(parts:Array (Nat×Operand)):List (Nat×TV):=parts.toList.map fun p=>(p.1,q87 fr p.2)
theorem x50 (fr:List TV)(parts:Array (Nat×Operand)):(uo7 fr parts).map (fun p=>(p.1,dn p.2))=wr6 (dns fr) parts:=by
 simp only[uo7,wr6,List.map_map]
 apply List.map_congr_left
 intro p _
 simp[q64]
theorem y14 (l:List Value):dns (l.map u25)=l.map vg4:=by
 rw[qm9,List.map_map]
 apply List.map_congr_left
 intro a _
 exact us9 a
def tBuild (P:Program)(t:TypeId)(parts:List (Nat×TV)):Option (Bool×TV) :=
 match P.underlying t,up8 P t with
 |some (.struct fs),some z =>
  match aPlaces P fs with
  |some pl=>(q2s (pl[·]?) (z.cells.toList.map u25) parts).map fun cs=>(true,.agg cs)
  |none=>none
 |some (.array _ e),some z =>
  match P.info? e with
  |some i=>(q2s (fun k=>some (k*i.size,i.size)) (z.cells.toList.map u25) parts).map fun cs=>(true,.agg cs)
  |none=>none
 |_,_=>none
theorem q2r {P:Program}{t:TypeId}{fr:List TV}{parts:Array (Nat×Operand)}{v:TV}{g:Bool}(h:tBuild P t (uo7 fr parts)=some (g,v)):k99 P t (wr6 (dns fr) parts)=some (dn v):=by
 unfold tBuild at h
 unfold k99
 split at h
 ·rename_i fs z h1 h2
  simp only[h1,h2]
  split at h
  ·rename_i pl h3
   obtain⟨cs,h4,h5⟩:=q54 h
   cases h5
   obtain⟨ps,h6,h7⟩:=yk3 _ _ _ _ h4
   rw[x50] at h6
   rw[y14] at h7
   simp only[h3,h6]
   rw[h7]
   rfl
  ·cases h
 ·rename_i n e z h1 h2
  simp only[h1,h2]
  split at h
  ·rename_i inf h3
   obtain⟨cs,h4,h5⟩:=q54 h
   cases h5
   obtain⟨ps,h6,h7⟩:=yk3 _ _ _ _ h4
   rw[x50] at h6
   rw[y14] at h7
   simp only[h3,h6]
   rw[h7]
   rfl
  ·cases h
 ·cases h
def tyOf (P:Program):Nat→TypeId→Option Ty
 |0,_=>none
 |n+1,t=>match P.underlying t with
  |some (.int k)=>some (.int k)
  |some .bool=>some .bool
  |some .string=>some .str
  |some (.slice e)=>(tyOf P n e).map .list
  |some (.struct fs)=>(fs.toList.mapM fun f=>tyOf P n f.type).map .st
  |some (.array m e)=>(tyOf P n e).map fun y=>.st (List.replicate m y)
  |_=>none
def typed (P:Program)(e:TypeId)(cs:List TV)(len:Nat):TV :=
 match tyOf P 10 e with
 |some ty=>match decN (dec ty) len cs with
  |some xs=>.tl ty xs .full
  |none=>.ll cs len .full
 |none=>.ll cs len .full
def q2t (P:Program)(t:TypeId)(x y:TV):Option (Bool×TV) :=
 match x,y with
 |.agg cs,.int _ ix=>match P.underlying t with
  |some (.array n e)=>match P.info? e,tyOf P 10 e,j15 P e with
   |some inf,some (.st fs),some (some m)=>match decN (dec (.st fs)) n (cs.map qq3) with
    |some xs=>if inf.size=m∧m=xi0 fs then some (decide (0≤ix∧ix<n),ks0 (.st fs) (xs.getD ix.toNat (dflt (.st fs)))) else none
    |none=>none
   |_,_,_=>none
  |_=>none
 |_,_=>tIndex P t x y
theorem kr4 {P:Program}{t:TypeId}{x y v:TV}{g:Bool}(h:q2t P t x y=some (g,v))(hg:gdP g):∃ a,uf8 P t (dn x) (dn y)=some a∧WkM a (dn v):=by
 unfold q2t at h
 split at h
 ·rename_i cs kd ix
  split at h
  ·rename_i n e hu
   split at h
   ·rename_i inf fs m hi hty hag
    split at h
    ·rename_i xs hx
     split at h
     ·rename_i hc
      cases h
      simp only[gdP,decide_eq_true_eq] at hg
      obtain⟨hc1,hc2⟩:=hc
      obtain⟨h1,h2⟩:=x98 (dec (.st fs)) (fun cs x r h=>wz6 (.st fs) cs x r h) _ _ _ hx
      rw[zo0] at h1
      have hl:=h1.len
      rw[List.length_map,qx7,h2] at hl
      obtain⟨a,c,s1,s2,s3,s4⟩:=yh5 xs ix.toNat (by omega)
      have sz:(Ty.st fs).size=xi0 fs:=rfl
      rw[sz] at hl s2 s3 s4
      have hle:ix.toNat*inf.size+m≤(dns cs).length:=by
       rw[hc1,hl,hc2]
       have:(ix.toNat+1)*xi0 fs≤n*xi0 fs:=Nat.mul_le_mul_right _ (by omega)
       rw[Nat.add_mul] at this
       omega
      refine⟨_,by simp only[dn,uf8,hu,hi];rw[if_pos hg];simp only[jt3,hag];rw[if_pos hle];rfl,.of ?_ rfl⟩
      have e1:dn (ks0 (.st fs) (xs.getD ix.toNat (dflt (.st fs))))=.agg (q50 (.st fs) (xs.getD ix.toNat (dflt (.st fs)))):=congrArg AV.agg (wt9 fs _)
      rw[e1]
      show Wk (.agg _) _
      refine .agg ?_
      rw[← s3,List.map_take,List.map_drop,hc1,hc2]
      rw[s1] at h1
      have h3:∀ {x y:List AV} (k:Nat),Wks x y→Wks (x.drop k) (y.drop k):=by
       intro x y k hw
       induction hw generalizing k with
       |nil=>simp;exact .nil
       |cons h hs ih=>cases k with
        |zero=>exact .cons h hs
        |succ k=>exact ih k
      have h4:∀ {x y:List AV} (k:Nat),Wks x y→Wks (x.take k) (y.take k):=by
       intro x y k hw
       induction hw generalizing k with
       |nil=>simp;exact .nil
       |cons h hs ih=>cases k with
        |zero=>exact .nil
        |succ k=>exact .cons h (ih k)
      have:=h4 (xi0 fs) (h3 (ix.toNat*xi0 fs) h1)
      rw[← s2,List.drop_left] at this
      rw[← s2]
      exact this
     ·cases h
    ·cases h
   ·cases h
  ·cases h
 ·exact⟨_,q2u h hg,.refl _⟩
theorem typed_wk (P:Program)(e:TypeId)(cs:List TV)(len:Nat):WkM (.list (dns cs) len .full) (dn (typed P e cs len)):=by
 unfold typed
 split
 ·rename_i ty _
  split
  ·rename_i xs h
   obtain⟨h1,h2⟩:=x98 (dec ty) (fun cs x r h=>wz6 ty cs x r h) _ _ _ h
   refine .of ?_ rfl
   simp only[dn]
   rw[h2]
   exact .list h1 fun _=>rfl
  ·exact .refl _
 ·exact .refl _
def x49 (P:Program)(t:TypeId)(len:Nat)(parts:List (Nat×TV)):Option (Bool×TV) :=
 match wr5 P t with
 |some (e,size) =>
  match up8 P e with
  |some z =>
   if len*size≤16777216∧0<z.cells.size then
    (q2s (fun i=>some (i*size,size)) ((vi3 z (len*size)).toList.map u25) parts).map fun cs=>(true,typed P e cs len)
   else none
  |none=>none
 |none=>none
theorem ve0 {P:Program}{t:TypeId}{len:Nat}{fr:List TV}{parts:Array (Nat×Operand)}{v:TV}{g:Bool}(h:x49 P t len (uo7 fr parts)=some (g,v)):∃ a,zp2 P t len (wr6 (dns fr) parts)=some a∧WkM a (dn v):=by
 unfold x49 at h
 unfold zp2
 split at h
 ·rename_i e size h1
  split at h
  ·rename_i z h2
   split at h
   ·rename_i hc
    obtain⟨cs,h4,h5⟩:=q54 h
    cases h5
    obtain⟨ps,h6,h7⟩:=yk3 _ _ _ _ h4
    rw[x50] at h6
    rw[y14] at h7
    simp only[h1,h2,h6]
    rw[if_pos hc,h7]
    exact⟨_,rfl,typed_wk P e cs len⟩
   ·cases h
  ·cases h
 ·cases h
def u32 (P:Program)(wr:Bool)(fr:List TV)(s:List TOb)(op:Op):Option (Bool×TV) :=
 match op with
 |.move x=>some (true,q87 fr x)
 |.assign x=>some (true,q87 fr x)
 |.pick c x y=>match q87 fr c with
  |.tt=>some (true,q87 fr x)
  |.ff=>some (true,q87 fr y)
  |_=>none
 |.build t parts=>tBuild P t (uo7 fr parts)
 |.buildSlice t n parts=>x49 P t n (uo7 fr parts)
 |.load t x=>q2v P s t (q87 fr x)
 |.nilCheck x=>tNil (q87 fr x)
 |.binOp op t x y _=>tBin P wr t op (q87 fr x) (q87 fr y)
 |.unOp op _ x=>tUn wr op (q87 fr x)
 |.convert src dst x=>tConv P wr src dst (q87 fr x)
 |.makeFunc fn first captured=>if first.size=0 then some (true,.func fn (captured.toList.map fun x=>qq3 (q87 fr x))) else none
 |.slice t x lo hi none=>tSlice P t (q87 fr x) (lo.map (q87 fr)) (hi.map (q87 fr))
 |.fieldAddr t x f=>xz3 P t (q87 fr x) f
 |.indexAddr t x y=>yk4 P t (q87 fr x) (q87 fr y)
 |.index t x y=>q2t P t (q87 fr x) (q87 fr y)
 |.extract x k=>match q87 fr x with
  |.tup vs=>(vs[k]?).map fun v=>(true,qq3 v)
  |_=>none
 |.call c=>match c.callee with
  |.builtin .len=>match c.args.toList,c.argTypes.toList with
   |[x],[t]=>tLen P t (q87 fr x)
   |_,_=>none
  |.builtin .max=>match c.args.toList with
   |[x,y]=>match q87 fr x,q87 fr y with
    |.int k a,.int _ b=>some (true,.int k (jl7 a b))
    |_,_=>none
   |_=>none
  |.builtin .min=>match c.args.toList with
   |[x,y]=>match q87 fr x,q87 fr y with
    |.int k a,.int _ b=>some (true,.int k (iMin a b))
    |_,_=>none
   |_=>none
  |_=>none
 |_=>none
theorem uo8 {P:Program}{wr:Bool}{fr:List TV}{s:List TOb}{o:Oper}{g:Bool}{v:TV}(h:u32 P wr fr s o.op=some (g,v))(hg:gdP g):∃ a,qo3 P (dns fr) (dnS s) o=some a∧WkM a (dn v):=by
 obtain⟨dst,op,type,pos,after,guard⟩:=o
 cases op<;>simp only[u32] at h<;>try (cases h;done)
 case move x=>cases h;exact⟨_,rfl,by simp only[q64];exact .refl _⟩
 case assign x=>cases h;exact⟨_,rfl,by simp only[q64];exact .refl _⟩
 case pick c x y =>
  split at h
  ·rename_i hc;cases h;simp only[qo3,← q64,hc,dn];exact⟨_,rfl,.refl _⟩
  ·rename_i hc;cases h;simp only[qo3,← q64,hc,dn];exact⟨_,rfl,.refl _⟩
  ·cases h
 case build t parts=>simp only[qo3];exact⟨_,q2r h,.refl _⟩
 case buildSlice t n parts=>simp only[qo3];exact ve0 h
 case load t x=>simp only[qo3,← q64];exact⟨_,kr5 h hg,.refl _⟩
 case nilCheck x =>
  simp only[qo3,← q64]
  unfold tNil at h
  split at h<;>cases h<;>simp only[*,dn]<;>exact⟨_,rfl,.refl _⟩
 case binOp op t x y ty=>simp only[qo3,← q64];exact⟨_,tBin_spec h hg,.refl _⟩
 case unOp op t x=>simp only[qo3,← q64];exact⟨_,tUn_spec h hg,.refl _⟩
 case convert src dst x=>simp only[qo3,← q64];exact⟨_,w1u h hg,.refl _⟩
 case makeFunc fn first captured =>
  split at h
  ·rename_i h0
   cases h
   simp only[qo3]
   rw[if_pos h0]
   refine⟨_,rfl,?_⟩
   simp only[dn,qm9,List.map_map]
   have:(captured.toList.map fun x=>(q42 (dns fr) x).plain)=captured.toList.map (dn ∘ fun x=>qq3 (q87 fr x)):=by
    apply List.map_congr_left
    intro x _
    simp[qo9,q64]
   rw[qm9] at this
   rw[this]
   exact .refl _
  ·cases h
 case slice t x lo hi mx =>
  cases mx with
  |none=>simp only[qo3];exact q2x h hg
  |some m=>simp at h
 case fieldAddr t x f=>simp only[qo3,← q64];exact⟨_,u29 h,.refl _⟩
 case indexAddr t x y =>
  simp only[qo3,← q64]
  obtain⟨a,h1,h2⟩:=u30 h hg
  refine⟨a,h1,.of h2 ?_⟩
  unfold yk4 at h
  split at h
  ·split at h
   ·split at h
    ·cases h;rfl
    ·cases h
   ·cases h
  ·split at h
   ·split at h
    ·cases h;rfl
    ·cases h
   ·cases h
  ·split at h
   ·cases h;rfl
   ·cases h
  ·split at h
   ·split at h
    ·cases h;rfl
    ·cases h
   ·cases h
  ·cases h
 case index t x y=>simp only[qo3,← q64];exact kr4 h hg
 case extract x k =>
  split at h
  ·rename_i vs hx
   obtain⟨u,h1,h2⟩:=q54 h
   cases h2
   simp only[qo3,← q64,hx,dn]
   rw[ut0,h1]
   exact⟨_,rfl,by rw[qo9];exact .refl _⟩
  ·cases h
 case call c =>
  split at h
  ·rename_i hc
   split at h
   ·rename_i x t ha ht
    simp only[qo3,hc,ha,ht,← q64]
    exact⟨_,tLen_spec h,.refl _⟩
   ·cases h
  ·rename_i hc
   split at h
   ·rename_i x y ha
    split at h
    ·rename_i hx hy
     cases h
     simp only[qo3,hc,ha,← q64,hx,hy,dn]
     exact⟨_,rfl,.refl _⟩
    ·cases h
   ·cases h
  ·rename_i hc
   split at h
   ·rename_i x y ha
    split at h
    ·rename_i hx hy
     cases h
     simp only[qo3,hc,ha,← q64,hx,hy,dn]
     exact⟨_,rfl,.refl _⟩
    ·cases h
   ·cases h
  ·cases h
def WkF (fr fr':List AV):Prop:=fr'.length=fr.length∧∀ t,WkM (fr.getD t .undef) (fr'.getD t .undef)
def WkO (o o':Ob):Prop:=o'.live=true→o'.t=o.t∧o.live=true∧(o'.cs.length=o.cs.length∧∀ (k:Nat) (a a':AV),o.cs[k]?=some a→o'.cs[k]?=some a'→WkM a a')
def WkS (s s':List Ob):Prop:=s'.length=s.length∧∀ (i:Nat) (o o':Ob),s[i]?=some o→s'[i]?=some o'→WkO o o'
theorem WkF.refl (fr:List AV):WkF fr fr:=⟨rfl,fun _=>.refl _⟩
theorem WkO.refl (o:Ob):WkO o o:=fun hl=>⟨rfl,hl,⟨rfl,fun k a a' h h'=>by rw[h] at h';cases h';exact .refl _⟩⟩
theorem WkS.refl (s:List Ob):WkS s s:=⟨rfl,fun i o o' h h'=>by rw[h] at h';cases h';exact .refl _⟩
theorem FR.weaken {M:Nat→Prop}{G:Gh}{w:World}{fr fr':List AV}{a:Act}(h:FR M G w fr a)(k:WkF fr fr'):FR M G w fr' a :=
 ⟨h.defers,h.size.trans k.1.symm,fun t=>k.2 t M G w _ (h.at_ t)⟩
theorem Sim.weaken {M:Nat→Prop}{G:Gh}{s s':List Ob}{w:World}(h:Sim M G s w)(k:WkS s s'):Sim M G s' w:=by
 have get:∀ (i:Nat) (o':Ob),s'[i]?=some o'→∃ o,s[i]?=some o∧WkO o o':=fun i o' hi=>by
  have hlt:i<s.length:=by rw[← k.1];exact q75 hi
  exact⟨s[i],List.getElem?_eq_getElem hlt,k.2 i _ _ (List.getElem?_eq_getElem hlt) hi⟩
 refine⟨h.n.trans k.1.symm,h.inj,h.own,?_,h.lt,?_⟩
 ·intro i o' hi hol
  obtain⟨o,h1,h2⟩:=get i o' hi
  exact h.live i o h1 (h2 hol).2.1
 ·intro i o' hi hl
  obtain⟨o,h1,h2⟩:=get i o' hi
  obtain⟨h2,h3,h5,h6⟩:=h2 hl
  obtain⟨vs,g1,g2,g3⟩:=h.at_ i o h1 h3
  refine⟨vs,by rw[h2];exact g1,g2.trans h5.symm,fun j a' v hj hv=>?_⟩
  have hlt:j<o.cs.length:=by rw[← h5];exact q75 hj
  exact h6 j _ _ (List.getElem?_eq_getElem hlt) hj M G w v (g3 j _ v (List.getElem?_eq_getElem hlt) hv)
section
variable {P:Program} {o:Oper} {fr:List AV} {s:List Ob}
theorem xl8.weaken {fr' fr'':List AV}{v v':AV}{s' s'':List Ob}(h:xl8 P o fr s fr' v s')(k1:WkF fr' fr'')(k2:WkM v v')(k3:WkS s' s''):xl8 P o fr s fr'' v' s'' :=
 fun M G w a hF hS hf K Q hK=>h M G w a hF hS hf K Q fun cv G' w' h1 h2 h3 h4=>hK cv G' w' h1 (h2.weaken k3) (h3.weaken k1) (k2 M G' w' cv h4)
end
theorem AW_weaken {n0:Nat}{P:Program}{c:Code}{fr fr':List AV}{s s':List Ob}{Q:AQ}(h1:WkF fr fr')(h2:WkS s s')(h:AW n0 P c fr' s' Q):AW n0 P c fr s Q :=
 fun M G0 w0 hM a w ⟨G,k1,k2,k3⟩=>h M G0 w0 hM a w ⟨G,k1,k2.weaken h2,k3.weaken h1⟩
theorem AL_weaken {n0:Nat}{P:Program}{A:Array Oper}{l:List Oper}{fr fr':List AV}{s s':List Ob}{Q:AQ}(h1:WkF fr fr')(h2:WkS s s')(h:AL n0 P A l fr' s' Q):AL n0 P A l fr s Q :=
 fun M G0 w0 hM a w ⟨G,k1,k2,k3⟩=>h M G0 w0 hM a w ⟨G,k1,k2.weaken h2,k3.weaken h1⟩
theorem cm_none {ts:List Nat}{a:AV}(h:a.mark=none):q47 ts a=a:=by unfold q47;rw[h]
def wd3 :TV→Option Nat
 |.tl _ _ (.own t _ _)=>some t
 |.ll _ _ (.own t _ _)=>some t
 |_=>none
theorem za3 (v:TV):(dn v).mark=wd3 v:=by
 cases v<;>try rfl
 ·rename_i t xs g;cases g<;>rfl
 ·rename_i t xs g;cases g<;>rfl
def xi6 (ts:List Nat)(v:TV):TV:=match wd3 v with
 |some t=>if ts.contains t=true then qq3 v else v
 |none=>v
theorem dn_tclear (ts:List Nat)(v:TV):dn (xi6 ts v)=q47 ts (dn v):=by
 unfold xi6 q47
 rw[za3]
 cases wd3 v with
 |none=>rfl
 |some t =>
  dsimp only
  split
  ·rw[qo9]
  ·rfl
def zb8 (ts:List Nat)(fr:List TV):List TV:=fr.map (xi6 ts)
theorem wu0 (ts:List Nat)(fr:List TV):dns (zb8 ts fr)=q67 ts (dns fr):=by
 simp only[zb8,q67,qm9,List.map_map]
 apply List.map_congr_left
 intro a _
 exact dn_tclear ts a
def u33 (ts:List Nat):TOb→TOb
 |.cells cs t l=>.cells (zb8 ts cs) t l
 |o=>o
theorem jz6 : ∀ (t : Ty) (x : El t), ∀ a ∈ q50 t x, a.mark = none
  | .int _, _, a, h => by simp only [q50, List.mem_singleton] at h; subst h; rfl
  | .bool, _, a, h => by simp only [q50, List.mem_singleton] at h; subst h; rfl
  | .str, _, a, h => by simp only [q50, List.mem_singleton] at h; subst h; rfl
  | .list _, _, a, h => by simp only [q50, List.mem_singleton] at h; subst h; rfl
  | .st fs, x, a, h => by simp only [q50] at h; exact go fs x a h
 where go : ∀ (ts : List Ty) (x : Els ts), ∀ a ∈ qb9 ts x, a.mark = none
  | [], _, a, h => by simp [qb9] at h
  | t :: ts, x, a, h => by
    simp only [qb9, List.mem_append] at h
    rcases h with h | h
    · exact jz6 t x.1 a h
    · exact go ts x.2 a h
theorem vk1 : ∀ (t : Ty) (x : El t), (q50 t x).all AV.one = true
  | .int _, _ => rfl
  | .bool, _ => rfl
  | .str, _ => rfl
  | .list _, _ => rfl
  | .st fs, x => by simp only [q50]; exact go fs x
 where go : ∀ (ts : List Ty) (x : Els ts), (qb9 ts x).all AV.one = true
  | [], _ => rfl
  | t :: ts, x => by simp only [qb9, List.all_append, vk1 t x.1, go ts x.2, Bool.and_self]
theorem wn7 {t:Ty}(xs:List (El t)):∀ a∈xs.flatMap (q50 t),a.mark=none:=by
 intro a h
 obtain⟨x,_,h⟩:=List.mem_flatMap.1 h
 exact jz6 t x a h
theorem vg8 {t:Ty}(xs:List (El t)):(xs.flatMap (q50 t)).all AV.one=true:=by
 rw[List.all_flatMap,List.all_eq_true]
 intro x _
 exact vk1 t x
theorem jz9 (ts:List Nat):∀ l:List AV,(∀ a∈l,a.mark=none)→l.map (q47 ts)=l
 |[],_=>rfl
 |a::l,h=>by
  simp only[List.map_cons,jz9 ts l fun b hb=>h b (by simp[hb])]
  rw[cm_none (h a (by simp))]
theorem kb8 (ts:List Nat)(o:TOb):dnO (u33 ts o)={ dnO o with cs:=(dnO o).cs.map (q47 ts) }:=by
 cases o with
 |cells cs t l=>simp only[u33,dnO,wu0,q67]
 |tarr ty xs t l=>simp only[u33,dnO];rw[jz9 ts _ (wn7 xs)]
def k52 (ts:List Nat)(s:List TOb):List TOb:=s.map (u33 ts)
theorem kb9 (ts:List Nat)(s:List TOb):dnS (k52 ts s)=q78 ts (dnS s):=by
 simp only[dnS,k52,q78,List.map_map]
 apply List.map_congr_left
 intro o _
 exact kb8 ts o
theorem zm3 (ts:List Nat)(a:AV):WkM a (q47 ts a):=fun M G w v h=>⟨jg6 ts h.1,j18 ts h.2⟩
theorem x86 (ts:List Nat)(fr:List AV):WkF fr (q67 ts fr):=by
 refine⟨by simp[q67],fun t=>?_⟩
 unfold q67
 rw[List.getD_eq_getElem?_getD,List.getD_eq_getElem?_getD,List.getElem?_map]
 cases fr[t]? with
 |none=>exact .refl _
 |some a=>exact zm3 ts a
theorem wl7 (ts:List Nat)(s:List Ob):WkS s (q78 ts s):=by
 refine⟨by simp[q78],fun i o o' h h'=>?_⟩
 obtain⟨o2,h1,rfl⟩:=qh5 h'
 rw[h] at h1
 cases h1
 refine fun hl=>⟨rfl,hl,by simp,fun k a a' ha ha'=>?_⟩
 rw[List.getElem?_map,ha] at ha'
 cases ha'
 exact zm3 ts a
def fitLim (P:Program)(e:TypeId):Nat:=match P.info? e with
 |some i=>140737488355328/max 1 i.bytes
 |none=>0
theorem fits_of {P:Program}{e:TypeId}{size n:Nat}(h0:yq4 P e size 0=true)(h:n≤fitLim P e):yq4 P e size n=true:=by
 unfold yq4 at h0 ⊢
 unfold fitLim at h
 split at h0
 ·rename_i i hi
  rw[hi] at h
  dsimp only at h
  simp only[hi,Nat.zero_mul,Nat.zero_le,decide_true,Bool.true_and] at h0 ⊢
  rw[h0]
  have h1:n*max 1 i.bytes≤140737488355328:=Nat.le_trans (Nat.mul_le_mul_right _ h) (Nat.div_mul_le_self _ _)
  have h2:n*i.bytes≤n*max 1 i.bytes:=Nat.mul_le_mul_left _ (Nat.le_max_right _ _)
  have h3:n*1≤n*max 1 i.bytes:=Nat.mul_le_mul_left _ (Nat.le_max_left _ _)
  simp only[Bool.and_true,Bool.and_eq_true,decide_eq_true_eq]
  omega
 ·cases h0
def je3 (ty:Ty)(e:TypeId)(size d:Nat):TV→Option (List (El ty)×Nat)
 |.tl ty' xs (.own t0 e' z')=>if e'=e∧z'=size then (vk0 ty xs).map fun xs=>(xs,t0) else none
 |.tl ty' xs .full=>(vk0 ty xs).map fun xs=>(xs,d)
 |.ll [] 0 .full=>some ([],d)
 |.ll [] 0 (.own t0 e' z')=>if e'=e∧z'=size then some ([],t0) else none
 |_=>none
theorem u31 {ty:Ty}{e:TypeId}{size d:Nat}{x:TV}{xs:List (El ty)}{t0:Nat}(hs:size=ty.size)(h:je3 ty e size d x=some (xs,t0)):WkM (dn x) (.list (xs.flatMap (q50 ty)) xs.length (.own t0 e size)):=by
 unfold je3 at h
 split at h
 ·split at h
  ·rename_i hc
   obtain⟨rfl,rfl⟩:=hc
   obtain⟨ys,h1,h2⟩:=q54 h
   cases h2
   obtain⟨e1,rfl⟩:=w25 h1
   subst e1
   exact .refl _
  ·cases h
 ·obtain⟨ys,h1,h2⟩:=q54 h
  cases h2
  obtain⟨e1,rfl⟩:=w25 h1
  subst e1
  exact .full (by rw[qx7,hs])
 ·cases h
  show WkM (.list [] 0 .full) (.list [] 0 _)
  exact .full (by simp)
 ·split at h
  ·rename_i hc
   obtain⟨rfl,rfl⟩:=hc
   cases h
   exact .refl _
  ·cases h
 ·cases h
def xz1 (P:Program)(d:Nat)(fr:List TV)(s:List TOb)(t:TypeId)(x y:TV):Option (Bool×List TV×TV×List TOb) :=
 match wr5 P t with
 |none=>none
 |some (e,size) =>
  match y with
  |.ll [] 0 _=>match x with
   |.tl ty xs g=>some (true,fr,x,s)
   |.ll [] 0 g=>some (true,fr,x,s)
   |_=>none
  |.tl ty ys _=>if size=ty.size∧yq4 P e size 0=true then
    match je3 ty e size d x with
    |some (xs,t0)=>some (qr1 (xs.length+ys.length) (fitLim P e),zb8 [t0] fr,.tl ty (xs++ys) (.own t0 e size),k52 [t0] s)
    |none=>none
   else none
  |_=>none
section
variable {P:Program} {o:Oper}
theorem app_own {fr:List AV}{s:List Ob}{c:Call}{x y:Operand}{t e:TypeId}{size t0:Nat}{ty:Ty}{xs ys:List (El ty)}{g:Tag}(ho:o.op=.call c)(hc:c.callee=.builtin .append)(ha:c.args=#[x,y])(ht:c.argTypes=#[t,t])(he:wr5 P t=some (e,size))
  (hs:size=ty.size) (hfit:yq4 P e size (xs.length+ys.length)=true)
  (hx:q42 fr x=.list (xs.flatMap (q50 ty)) xs.length (.own t0 e size)) (hy:q42 fr y=.list (ys.flatMap (q50 ty)) ys.length g) :
  xl8 P o fr s (q67 [t0] fr) (.list ((xs++ys).flatMap (q50 ty)) (xs++ys).length (.own t0 e size)) (q78 [t0] s):=by
 rw[List.flatMap_append,List.length_append]
 rcases Nat.eq_zero_or_pos ys.length with h0|h0
 ·have hnil:=List.eq_nil_of_length_eq_zero h0
  subst hnil
  refine(j47 (qn0 ho hc ha ht he hx hy)).weaken (x86 _ _) ?_ (wl7 _ _)
  rw[hx,List.flatMap_nil,List.append_nil]
  exact .refl _
 ·exact vj0 t0 ho hc ha ht he hx hy h0 (by rw[qx7,hs]) (vg8 ys) hfit
theorem q4q {fr:List AV}{s:List Ob}{c:Call}{x y:Operand}{t e:TypeId}{size d:Nat}{ty:Ty}{xs ys:List (El ty)}{g:Tag}(ho:o.op=.call c)(hc:c.callee=.builtin .append)(ha:c.args=#[x,y])(ht:c.argTypes=#[t,t])(he:wr5 P t=some (e,size))
  (hs:size=ty.size) (hfit:yq4 P e size (xs.length+ys.length)=true)
  (hx:q42 fr x=.list (xs.flatMap (q50 ty)) xs.length .full) (hy:q42 fr y=.list (ys.flatMap (q50 ty)) ys.length g) :
  xl8 P o fr s (q67 [d] fr) (.list ((xs++ys).flatMap (q50 ty)) (xs++ys).length (.own d e size)) (q78 [d] s):=by
 rw[List.flatMap_append,List.length_append]
 rcases Nat.eq_zero_or_pos ys.length with h0|h0
 ·have hnil:=List.eq_nil_of_length_eq_zero h0
  subst hnil
  refine(j47 (qn0 ho hc ha ht he hx hy)).weaken (x86 _ _) ?_ (wl7 _ _)
  rw[hx,List.flatMap_nil,List.append_nil]
  exact .full (by rw[qx7,hs])
 ·exact(va6 d ho hc ha ht he hx hy h0 (by rw[qx7,hs]) (by rw[qx7,hs]) (vg8 ys) hfit).weaken (x86 _ _) (.refl _) (wl7 _ _)
theorem kr3 {fr fr':List TV}{s s':List TOb}{c:Call}{x y:Operand}{t:TypeId}{d:Nat}{g:Bool}{v:TV}(ho:o.op=.call c)(hc:c.callee=.builtin .append)(ha:c.args=#[x,y])(ht:c.argTypes=#[t,t])
  (h:xz1 P d fr s t (q87 fr x) (q87 fr y)=some (g,fr',v,s')) (hg:gdP g):xl8 P o (dns fr) (dnS s) (dns fr') (dn v) (dnS s'):=by
 unfold xz1 at h
 split at h
 ·cases h
 rename_i e size he
 split at h
 ·rename_i gy hy
  have hy':q42 (dns fr) y=.list [] 0 gy:=by rw[← q64,hy];rfl
  split at h
  ·rename_i ty xs gx hx
   cases h
   have hx':q42 (dns fr) x=.list (xs.flatMap (q50 ty)) xs.length gx:=by rw[← q64,hx];rfl
   have:=j47 (qn0 (s:=dnS s) ho hc ha ht he hx' hy')
   rw[hx'] at this
   rw[hx]
   exact this
  ·rename_i gx hx
   cases h
   have hx':q42 (dns fr) x=.list [] 0 gx:=by rw[← q64,hx];rfl
   have:=j47 (qn0 (s:=dnS s) ho hc ha ht he hx' hy')
   rw[hx'] at this
   rw[hx]
   exact this
  ·cases h
 ·rename_i ty ys gy hy
  have hy':q42 (dns fr) y=.list (ys.flatMap (q50 ty)) ys.length gy:=by rw[← q64,hy];rfl
  split at h
  ·rename_i hcnd
   obtain⟨hs,h0⟩:=hcnd
   split at h
   ·rename_i xs t0 hown
    cases h
    have hfit:=fits_of h0 (by simpa only[gdP,uv0] using hg)
    rw[wu0,kb9]
    obtain⟨xv,hxv⟩:∃ xv,q87 fr x=xv:=⟨_,rfl⟩
    have hx':q42 (dns fr) x=dn xv:=by rw[← q64,hxv]
    rw[hxv] at hown
    unfold je3 at hown
    split at hown
    ·split at hown
     ·rename_i hc2
      obtain⟨rfl,rfl⟩:=hc2
      obtain⟨zs,h1,h2⟩:=q54 hown
      cases h2
      obtain⟨e1,rfl⟩:=w25 h1
      subst e1
      exact app_own ho hc ha ht he hs hfit hx' hy'
     ·cases hown
    ·obtain⟨zs,h1,h2⟩:=q54 hown
     cases h2
     obtain⟨e1,rfl⟩:=w25 h1
     subst e1
     exact q4q ho hc ha ht he hs hfit hx' hy'
    ·cases hown
     exact q4q (xs:=[]) ho hc ha ht he hs hfit hx' hy'
    ·split at hown
     ·rename_i hc2
      obtain⟨rfl,rfl⟩:=hc2
      cases hown
      exact app_own (xs:=[]) ho hc ha ht he hs hfit hx' hy'
     ·cases hown
    ·cases hown
   ·cases h
  ·cases h
 ·cases h
def q7e :TV→Option (List TV)
 |.agg cs=>some (cs.map qq3)
 |.undef|.tup _|.ap _ _ _ _=>none
 |a=>some [a]
theorem u26 {v:TV}{cs:List TV}(h:q7e v=some cs):zx1 (dn v)=some (dns cs):=by
 unfold q7e at h
 split at h
 ·cases h;simp only[dn,zx1,zo0]
 ·cases h
 ·cases h
 ·cases h
 ·rename_i h1 h2 h3 h4
  cases h
  cases v<;>first
   |exact absurd rfl (h1 _)
   |exact absurd rfl h2
   |exact absurd rfl (h3 _)
   |exact absurd rfl (h4 _ _ _ _)
   |rfl
def tone :TV→Bool
 |.undef|.agg _|.tup _=>false
 |_=>true
theorem tone_spec (v:TV):(dn v).one=tone v:=by cases v<;>rfl
theorem up3 (l:List TV):(dns l).all AV.one=l.all tone:=by
 rw[qm9,List.all_map]
 congr 1
 funext v
 exact tone_spec v
def yk6 (P:Program)(s:List TOb)(t:TypeId)(x y:TV):Option (Bool×List TOb) :=
 match q7e y,P.info? t with
 |some new,some i=>if i.size=new.length∧new.all tone=true then
   match x with
   |.ref j k=>match s[j]? with
    |some (.cells cs ot l)=>if l=true∧k+new.length≤cs.length then some (true,s.set j (.cells (u36 cs k new) ot l)) else none
    |_=>none
   |.ap j ix sz k=>match s[j]? with
    |some (.tarr ty xs ot l)=>if l=true∧sz=ty.size∧k+new.length≤ty.size then
      match dec ty (u36 (up1 ty (xs.getD ix.toNat (dflt ty))) k (new.map qq3)) with
      |some (x',[])=>some (decide (0≤ix∧ix<xs.length),s.set j (.tarr ty (xs.set ix.toNat x') ot l))
      |_=>none
     else none
    |_=>none
   |_=>none
  else none
 |_,_=>none
theorem flat_set {t:Ty}(xs:List (El t))(i:Nat)(y:El t)(a c:List AV)(h:i<xs.length)(e1:xs.flatMap (q50 t)=a++c)(e2:a.length=i*t.size):(xs.set i y).flatMap (q50 t)=a++q50 t y++c.drop t.size:=by
 have ha:a=(xs.take i).flatMap (q50 t):=by rw[← kd3,e1,← e2,List.take_left]
 have hc:c=(xs.drop i).flatMap (q50 t):=by rw[← kd2,e1,← e2,List.drop_left]
 rw[ha,hc,List.set_eq_take_append_cons_drop,if_pos h,List.flatMap_append,List.flatMap_cons,← List.append_assoc]
 congr 1
 rw[List.drop_eq_getElem_cons h,List.flatMap_cons,List.drop_left' (qd7 _ _)]
theorem WkS.set {s:List Ob}{i:Nat}{o o':Ob}(h:WkO o o'):WkS (s.set i o) (s.set i o'):=by
 refine⟨by simp,fun j a b ha hb=>?_⟩
 rw[List.getElem?_set] at ha hb
 split at ha
 ·rename_i hij
  rw[if_pos hij] at hb
  split at ha
  ·rename_i hlt
   rw[if_pos hlt] at hb
   cases ha
   cases hb
   exact h
  ·cases ha
 ·rename_i hij
  rw[if_neg hij,ha] at hb
  cases hb
  exact .refl _
theorem vk7 (s:List TOb)(i:Nat)(o:TOb):dnS (s.set i o)=(dnS s).set i (dnO o):=by simp[dnS,List.map_set]
theorem vr6 :∀ l:List AV,(∀ a∈l,a.mark=none)→l.map AV.plain=l
 |[],_=>rfl
 |a::l,h=>by
  simp only[List.map_cons,vr6 l fun b hb=>h b (by simp[hb])]
  have:=h a (by simp)
  congr 1
  cases a<;>try rfl
  rename_i cs n g
  cases g<;>first|rfl|cases this
def tgtOf :TV→Option Nat
 |.ref j _=>some j
 |.ap j _ _ _=>some j
 |_=>none
def yr3 (P:Program)(o:Oper)(F:List AV)(s:List Ob)(idx:Nat)(s':List Ob):Prop:=∀ M G w a,Sim M G s w→FR M G w F a →
 ∃ w',(execOp a.eval o).run P w=.ok .skip w'∧Ext (fun _=>False) G w G w'∧(∀ b,b≠G.mu idx→w'.heap[b]?=w.heap[b]?)∧idx<G.n∧G.live idx=true∧Sim M G s' w'
theorem yr3.of {F:List AV}{s:List Ob}{t:TypeId}{x y:Operand}{i k:Nat}{ob:Ob}{new cs':List AV}(ho:o.op=.store t x y)(hx:q42 F x=.ref i k)(hi:s[i]?=some ob)(hl:ob.live=true)
  (hy:zx1 (q42 F y)=some new) (hst:vj3 P t ob.cs k new=some cs'):yr3 P o F s i (s.set i { ob with cs:=cs' }):=q7p ho hx hi hl hy hst
theorem yr3.weaken {F:List AV}{s s' s'':List Ob}{idx:Nat}(h:yr3 P o F s idx s')(k:WkS s' s''):yr3 P o F s idx s'':=fun M G w a hS hf=>by
 obtain⟨w',h1,h2,h3,h4,h5,h6⟩:=h M G w a hS hf
 exact⟨w',h1,h2,h3,h4,h5,h6.weaken k⟩
theorem yr3.step {F:List AV}{s s':List Ob}{idx:Nat}(h:yr3 P o F s idx s'):xl8 P o F s F (.tuple []) s':=by
 intro M G w a hF hS hf K Q hK
 obtain⟨w',h1,hE,_,_,_,hS'⟩:=h M G w a hS hf
 unfold Oper.wp
 rw[h1,Oper.upon_skip]
 exact hK undef G w' (hE.mono fun _ _=>False.elim) hS' (hf.grow hE) ⟨by simp only[VR0];exact⟨[],rfl,by simp only[q61]⟩,qe9.of_plain rfl⟩
theorem xi5 {F:List AV}{s s':List TOb}{t:TypeId}{x y:Operand}{xv yv:TV}{g:Bool}(ho:o.op=.store t x y)(hFx:q42 F x=dn xv)(hFy:q42 F y=dn yv)(h:yk6 P s t xv yv=some (g,s'))(hg:gdP g):∃ idx,tgtOf xv=some idx∧yr3 P o F (dnS s) idx (dnS s'):=by
 unfold yk6 at h
 split at h
 case h_2=>cases h
 rename_i new inf hnew hinf
 split at h
 case isFalse=>cases h
 rename_i hc
 obtain⟨hsz,hone⟩:=hc
 have hnew':=u26 hnew
 rw[← hFy] at hnew'
 split at h
 ·rename_i j k
  have hx':q42 F x=.ref j k:=hFx
  refine⟨j,rfl,?_⟩
  split at h
  ·rename_i cs ot l hj
   split at h
   ·rename_i hcc
    cases h
    have hj':(dnS s)[j]?=some ⟨dns cs,ot,l⟩:=by rw[qk0,hj];rfl
    have hst:vj3 P t (dns cs) k (dns new)=some (wk8 (dns cs) k (dns new)):=by
     unfold vj3
     rw[hinf]
     dsimp only
     rw[if_pos ⟨by rw[qc0];exact hsz,by rw[qc0,qc0];exact hcc.2,by rw[up3];exact hone⟩]
    have:=yr3.of (P:=P) (o:=o) (F:=F) (s:=dnS s) ho hx' hj' hcc.1 hnew' hst
    rw[vk7]
    simp only[dnO,yw1]
    exact this
   ·cases h
  ·cases h
 ·rename_i j ix sz k
  have hx':q42 F x=.ref j (ix.toNat*sz+k):=hFx
  refine⟨j,rfl,?_⟩
  split at h
  ·rename_i ty xs ot l hj
   split at h
   ·rename_i hcc
    obtain⟨hl,hsz2,hk⟩:=hcc
    split at h
    ·rename_i x' hdec
     cases h
     simp only[gdP,decide_eq_true_eq] at hg
     have hlt:ix.toNat<xs.length:=by omega
     have hj':(dnS s)[j]?=some ⟨xs.flatMap (q50 ty),ot,l⟩:=by rw[qk0,hj];rfl
     obtain⟨a,c,e1,e2,e3,e4⟩:=yh5 xs ix.toNat hlt
     have hal:ix.toNat*sz+k=a.length+k:=by rw[hsz2,e2]
     rw[hal] at hx'
     have hst:vj3 P t (xs.flatMap (q50 ty)) (a.length+k) (dns new)=some (wk8 (xs.flatMap (q50 ty)) (a.length+k) (dns new)):=by
      unfold vj3
      rw[hinf]
      dsimp only
      rw[if_pos ⟨by rw[qc0];exact hsz,by rw[qc0,e1,List.length_append];omega,by rw[up3];exact hone⟩]
     have:=yr3.of (P:=P) (o:=o) (F:=F) (s:=dnS s) ho hx' hj' hl hnew' hst
     refine this.weaken ?_
     rw[vk7]
     refine .set fun hl=>⟨rfl,hl,?_⟩
     simp only[dnO]
     have h1:=wz6 ty _ _ _ hdec
     simp only[dns,List.append_nil,yw1,yh2,zo0,← e3] at h1
     have h2:wk8 (xs.flatMap (q50 ty)) (a.length+k) (dns new)=a++wk8 (c.take ty.size) k (dns new)++c.drop ty.size:=by
      rw[e1]
      unfold wk8
      rw[List.take_append,List.take_of_length_le (by omega),Nat.add_sub_cancel_left]
      rw[Nat.add_assoc,List.drop_append,List.drop_of_length_le (by omega),Nat.add_sub_cancel_left,List.nil_append]
      rw[List.take_take,Nat.min_eq_left (by omega)]
      simp only[List.append_assoc]
      congr 3
      rw[List.drop_take]
      have hkn:k+(dns new).length≤ty.size:=by rw[qc0];exact hk
      rw[show c.drop ty.size=(c.drop (k+(dns new).length)).drop (ty.size-(k+(dns new).length)) by rw[List.drop_drop];congr 1;omega]
      rw[List.take_append_drop]
     have h3:=flat_set xs ix.toNat x' a c hlt e1 e2
     rw[h2,h3]
     have hlen:(wk8 (c.take ty.size) k (dns new)).length=ty.size:=by
      unfold wk8
      simp only[List.length_append,List.length_take,List.length_drop]
      rw[qc0]
      omega
     refine⟨by simp only[List.length_append,hlen,qd7],?_⟩
     intro q b b' hb hb'
     rcases Nat.lt_or_ge q a.length with hq|hq
     ·rw[List.append_assoc,List.getElem?_append_left hq] at hb hb'
      rw[hb] at hb'
      cases hb'
      exact .refl _
     ·rw[List.append_assoc,List.getElem?_append_right hq] at hb hb'
      rcases Nat.lt_or_ge (q-a.length) ty.size with hq2|hq2
      ·rw[List.getElem?_append_left (by omega)] at hb
       rw[List.getElem?_append_left (by rw[qd7];omega)] at hb'
       have hm:b'.mark=none:=jz6 ty x' b' (List.mem_of_getElem? hb')
       refine .of ?_ hm
       have h4:∀ {l m:List AV},Wks l m→∀ (i:Nat) (y y':AV),l[i]?=some y→m[i]?=some y'→Wk y y':=by
        intro l m hw
        induction hw with
        |nil=>intro i y y' h;simp at h
        |cons hh _ ih =>
         intro i y y' h h'
         cases i with
         |zero=>simp at h h';subst h;subst h';exact hh
         |succ i=>exact ih i y y' (by simpa using h) (by simpa using h')
       have h5:(wk8 (c.take ty.size) k ((dns new).map AV.plain))[q-a.length]?=some b.plain∨(wk8 (c.take ty.size) k ((dns new).map AV.plain))[q-a.length]?=some b:=by
        unfold wk8 at hb ⊢
        rcases Nat.lt_or_ge (q-a.length) k with hh|hh
        ·right
         rw[List.append_assoc,List.getElem?_append_left (by simp;omega)] at hb ⊢
         exact hb
        ·rcases Nat.lt_or_ge (q-a.length) (k+(dns new).length) with hh2|hh2
         ·left
          rw[List.append_assoc,List.getElem?_append_right (by simp;omega),List.getElem?_append_left (by simp;omega)] at hb ⊢
          rw[List.getElem?_map]
          simp only[List.length_take] at hb ⊢
          rw[hb]
          rfl
         ·right
          rw[List.getElem?_append_right (by simp;omega)] at hb ⊢
          simp only[List.length_append,List.length_take,List.length_map] at hb ⊢
          exact hb
       rcases h5 with h5|h5
       ·exact(AV.plain_wk b).trans (h4 h1 _ _ _ h5 hb')
       ·exact h4 h1 _ _ _ h5 hb'
      ·rw[List.getElem?_append_right (by omega)] at hb
       rw[List.getElem?_append_right (by rw[qd7];omega)] at hb'
       rw[hlen] at hb
       rw[qd7] at hb'
       rw[hb] at hb'
       cases hb'
       exact .refl _
    ·cases h
   ·cases h
  ·cases h
 ·cases h
theorem k50 {fr:List TV}{s s':List TOb}{t:TypeId}{x y:Operand}{g:Bool}(ho:o.op=.store t x y)(h:yk6 P s t (q87 fr x) (q87 fr y)=some (g,s'))(hg:gdP g):xl8 P o (dns fr) (dnS s) (dns fr) (.tuple []) (dnS s'):=by
 obtain⟨idx,_,h1⟩:=xi5 (F:=dns fr) ho (q64 fr x).symm (q64 fr y).symm h hg
 exact h1.step
end
end Go.Proofs.YtgicljncknbgcaaGreat.Abs
