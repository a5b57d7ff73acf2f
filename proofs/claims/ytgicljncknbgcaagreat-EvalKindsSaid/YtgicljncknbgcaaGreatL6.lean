/- Regions whose order is open, whose head also makes objects, stores and appends, told by a function. -/
import Derived.Test.YtgicljncknbgcaaGreatL4
import Derived.Test.YtgicljncknbgcaaGreatL5
set_option linter.unusedVariables false
set_option linter.unusedSimpArgs false
set_option linter.unusedSectionVars false
namespace Go.Proofs.YtgicljncknbgcaaGreat.Abs
open Go Go.ChangeShapes Go.WideShapes Go.ChangeAt Go.RowKit
def TW.dead (nb n0:Nat):TW→List Nat
 |.alloc r=>[nb+r]
 |.store true i=>[n0+i]
 |.store false i=>[i]
 |.app _=>[]
def TW.ts :TW→List Nat
 |.app t=>[t]
 |_=>[]
def ur3 (A:Array Oper)(i j:Nat):Bool:=Nat.blt j i&&zw5 A A.size i j
def vk3 (nb n0:Nat)(A:Array Oper)(i:Nat):List (Nat×TW)→List Nat
 |[]=>[]
 |(j,w)::l=>match Nat.beq j i||ur3 A i j||ur3 A j i with
  |true=>vk3 nb n0 A i l
  |false=>w.dead nb n0++vk3 nb n0 A i l
def w2c (A:Array Oper)(i:Nat):List (Nat×TW)→List Nat
 |[]=>[]
 |(j,w)::l=>match Nat.beq j i||ur3 A j i with
  |true=>w2c A i l
  |false=>w.ts++w2c A i l
def w2b :List (Nat×TW)→List Nat
 |[]=>[]
 |(_,w)::l=>w.ts++w2b l
def u72 (nb n0:Nat)(A:Array Oper)(j i:Nat):TW→TW→Bool
 |.alloc r,.alloc r'=>Nat.beq j i||!(Nat.beq r r')
 |.alloc r,w=>!((w.dead nb n0).contains (nb+r))||ur3 A i j
 |_,.alloc _=>true
 |_,_=>Nat.beq j i||ur3 A i j||ur3 A j i
def wsOK (A:Array Oper)(n nb n0:Nat)(ws:List (Nat×TW)):Bool:=ws.all fun p=>Nat.blt p.1 n&&ws.all fun q=>u72 nb n0 A p.1 q.1 p.2 q.2
def tmskS (dead ts:List Nat):Nat→List TOb→List TOb
 |_,[]=>[]
 |i,o::s=>(match dead.contains i with
  |true=>match o with
   |.cells cs t _=>.cells cs t false
   |.tarr ty xs t _=>.tarr ty xs t false
  |false=>u33 ts o)::tmskS dead ts (i+1) s
theorem vk6 {dead ts:List Nat}:∀ (i:Nat) (s:List TOb),dnS (tmskS dead ts i s)=q5k dead ts i (dnS s)
 |_,[]=>rfl
 |i,o::s=>by
  have ih:=vk6 (dead:=dead) (ts:=ts) (i+1) s
  simp only[dnS,tmskS,q5k,List.map_cons] at ih ⊢
  rw[ih]
  congr 1
  cases hd:dead.contains i with
  |true=>rw[if_pos rfl];cases o<;>rfl
  |false=>rw[if_neg (by simp)];exact kb8 ts o
def mskK {β:Type}(dead ts:List Nat)(s:List TOb)(k:List TOb→β):β:=match dead,ts with
 |[],[]=>k s
 |_,_=>z70 (tmskS dead ts 0 s) k
theorem tmsk_nil :∀ (i:Nat) (s:List TOb),dnS (tmskS [] [] i s)=dnS s:=fun i s=>by
 rw[vk6]
 have:∀ (i:Nat) (s:List Ob),q5k [] [] i s=q78 [] s:=by
  intro i s
  induction s generalizing i with
  |nil=>rfl
  |cons o s ih=>simp only[q5k,ih];rfl
 rw[this,wz4]
theorem mskK_eq (dead ts:List Nat)(s:List TOb):∃ s',dnS s'=q5k dead ts 0 (dnS s)∧∀ {β:Type} (k:List TOb→β),mskK dead ts s k=k s':=by
 cases dead with
 |nil =>
  cases ts with
  |nil=>exact⟨s,by rw[← vk6];exact(tmsk_nil 0 s).symm,fun _=>rfl⟩
  |cons a l=>exact⟨_,vk6 0 s,fun k=>by simp only[mskK,qu6]⟩
 |cons a l=>exact⟨_,vk6 0 s,fun k=>by simp only[mskK,qu6]⟩
section
variable {β:Type} (sc:Sc) (cf:Cfg)
def zk9 (op:Op)(frv:List TV)(sv:List TOb)(fr:List TV)(k:List TV→TV→Option β):Option β :=
 match op with
 |.pick c x y=>match q87 frv c with
  |.tt=>k fr (q87 frv x)
  |.ff=>k fr (q87 frv y)
  |.bool b=>match c with
   |.tmp t=>cond b (uo5 fr t .tt fun fr=>k fr (q87 frv x)) (uo5 fr t .ff fun fr=>k fr (q87 frv y))
   |_=>none
  |_=>none
 |.call c=>match c.callee with
  |.value x=>match q87 frv x with
   |.func (.func f) fcs=>zy6 ((c.args.toList.map fun y=>u35 (q87 frv y))++fcs) fun args=>match zl6 args with
    |true=>cf.C f β args [] fun r s'=>match s',jy8 r with
     |[],true=>k fr (qq3 r)
     |_,_=>none
    |false=>zy6 (args.map (zb7 sv 4)) fun args=>match zl6 args with
     |true=>cf.C f β args [] fun r s'=>match s',xz6 r with
      |[],true=>k fr (qq3 r)
      |_,_=>none
     |false=>none
   |_=>none
  |_=>match u32 sc.P sc.wrap frv sv op with
   |some (g,v)=>cond g (k fr v) none
   |none=>none
 |op=>match u32 sc.P sc.wrap frv sv op with
  |some (g,v)=>cond g (k fr v) none
  |none=>none
def putB {γ:Type}(nb:Nat)(fr:List TV)(d:Option Nat)(v:TV)(k:List TV→Option γ):Option γ:=v36 v fun v=>match j08 nb v with
 |true=>jf0 fr d v k
 |false=>none
def ky0 (nb n0:Nat):TW→Nat
 |.alloc r=>nb+r
 |.store true i=>n0+i
 |.store false i=>i
 |.app _=>0
def obAt :List TOb→Nat→TOb
 |[],_=>.cells [] 0 false
 |o::_,0=>o
 |_::s,i+1=>obAt s i
theorem obAt_eq :∀ (s:List TOb) (i:Nat),i<s.length→s[i]?=some (obAt s i)
 |[],i,h=>by simp at h
 |o::s,0,h=>rfl
 |o::s,i+1,h=>by simpa[obAt] using obAt_eq s i (by simpa using h)
def belowO (nb:Nat):TOb→Bool
 |.cells cs _ _=>zv7 nb cs
 |.tarr ..=>true
theorem kw1 {nb:Nat}{o:TOb}(h:belowO nb o=true):qf0 nb (dnO o).cs=true:=by
 cases o with
 |cells cs t l=>exact qq2 cs h
 |tarr ty xs t l=>exact vo7 nb xs
def writeH (K nb n0:Nat)(w:TW)(dst:Option Tmp)(op:Op)(frv:List TV)(sv:List TOb)(fr:List TV)(s:List TOb)(k:List TV→List TOb→Option β):Option β :=
 match w,op with
 |.alloc r,.alloc t=>match tZero sc.P t with
  |some cs=>match Nat.blt r K with
   |true=>z70 (s.set (nb+r) (.cells cs t true)) fun s=>jf0 fr dst (.ref (nb+r) 0) fun fr=>k fr s
   |false=>none
  |none=>none
 |.store o i,.store t x y=>match yk6 sc.P sv t (q87 frv x) (q87 frv y) with
  |some (g,s')=>match tgtOf (q87 frv x) with
   |some idx=>match Nat.beq idx (ky0 nb n0 (.store o i))&&Nat.blt idx s'.length with
    |true=>q5d (obAt s' idx) fun ob=>match belowO nb ob with
     |true=>cond g (z70 (s.set idx ob) fun s=>jf0 fr dst (.tup []) fun fr=>k fr s) none
     |false=>none
    |false=>none
   |none=>none
  |none=>none
 |.app t0,.call c=>match c.callee with
  |.builtin .append=>match c.args.toList,c.argTypes.toList with
   |[x,y],[t,t']=>if t=t' then match xz1 sc.P (1000+dst.getD 0) frv sv t (q87 frv x) (q87 frv y) with
     |some (g,_,v,_)=>match wd3 v with
      |some m=>match Nat.beq m t0 with
       |true=>cond g (z70 (k52 [t0] s) fun s=>putB nb fr dst (q3a (fun _=>4000+dst.getD 0) v) fun fr=>k fr s) none
       |false=>none
      |none=>none
     |none=>none
    else none
   |_,_=>none
  |_=>none
 |_,_=>none
def y99 (hd:HDat)(A:Array Oper)(nb n0:Nat):List Oper→Nat→List TV→List TOb→(List TV→List TOb→Option β)→Option β
 |[],_,fr,s,k=>k fr s
 |o::l,i,fr,s,k=>x84 (w2c A i hd.ws) fr fun frv=>mskK (vk3 nb n0 A i hd.ws) (w2c A i hd.ws) s fun sv =>
  match xp5 hd.ws i with
  |some w=>match o.guard with
   |none=>writeH sc hd.K nb n0 w o.dst o.op frv sv fr s fun fr s=>y99 hd A nb n0 l (i+1) fr s k
   |some _=>none
  |none=>match o.guard with
   |none=>zk9 sc cf o.op frv sv fr fun fr v=>putB nb fr o.dst v fun fr=>y99 hd A nb n0 l (i+1) fr s k
   |some (g,want)=>match vo9 A g with
    |none=>none
    |some t=>match frv.getD t .undef with
     |.tt=>if want=true then zk9 sc cf o.op frv sv fr fun fr v=>putB nb fr o.dst v fun fr=>y99 hd A nb n0 l (i+1) fr s k else jf0 fr o.dst (.tup []) fun fr=>y99 hd A nb n0 l (i+1) fr s k
     |.ff=>if want=true then jf0 fr o.dst (.tup []) fun fr=>y99 hd A nb n0 l (i+1) fr s k else zk9 sc cf o.op frv sv fr fun fr v=>putB nb fr o.dst v fun fr=>y99 hd A nb n0 l (i+1) fr s k
     |.tup []=>jf0 fr o.dst (.tup []) fun fr=>y99 hd A nb n0 l (i+1) fr s k
     |.bool b=>cond b
      (uo5 fr t .tt fun fr=>if want=true then zk9 sc cf o.op frv sv fr fun fr v=>putB nb fr o.dst v fun fr=>y99 hd A nb n0 l (i+1) fr s k else jf0 fr o.dst (.tup []) fun fr=>y99 hd A nb n0 l (i+1) fr s k)
      (uo5 fr t .ff fun fr=>if want=true then jf0 fr o.dst (.tup []) fun fr=>y99 hd A nb n0 l (i+1) fr s k else zk9 sc cf o.op frv sv fr fun fr v=>putB nb fr o.dst v fun fr=>y99 hd A nb n0 l (i+1) fr s k)
     |_=>none
end
def deads :Nat→List TOb
 |0=>[]
 |n+1=>.cells [] 0 false::deads n
theorem q4w :∀ n,dnS (deads n)=List.replicate n us7
 |0=>rfl
 |n+1=>by
  have:=q4w n
  simp only[dnS,deads,List.map_cons,List.replicate_succ] at this ⊢
  rw[this];rfl
def draw3 {β:Type}(sc:Sc)(cf:Cfg)(hd:HDat)(A:Array Oper)(fr:List TV)(s:List TOb)(k:List TV→List TOb→Option β):Option β :=
 cond (v25 A hd.n hd.L&&wsOK A hd.n s.length cf.n0 hd.ws&&sc.P.follows .mixedOrders)
  (if fr.length=hd.L then
   z70 (s++deads hd.K) fun s1=>y99 sc cf hd A s.length cf.n0 (A.toList.take hd.n) 0 fr s1 fun fr s=>x84 (w2b hd.ws) fr fun fr=>z89 sc cf A (A.toList.drop hd.n) fr s k
  else none) none
def ltL (i:Nat):Nat→Bool:=fun j=>decide (j<i)
theorem kw0 {A:Array Oper}(h:∀ (i:Nat) (o:Oper),A[i]?=some o→∀ e∈o.after,Region.binds .any e=true→e.on<i):∀ (f j i:Nat),zw5 A f j i=true→i<j
 |0,_,_,h0=>by simp[zw5] at h0
 |f+1,j,i,h0=>by
  cases hj:A[j]? with
  |none=>simp[zw5,hj] at h0
  |some o =>
   simp only[zw5,hj,List.any_eq_true] at h0
   obtain⟨e,he,hb⟩:=h0
   simp only[Bool.and_eq_true,Bool.or_eq_true,beq_iff_eq] at hb
   have h1:=h j o hj e (by simpa using he) hb.1
   rcases hb.2 with h2|h2
   ·omega
   ·have:=kw0 h f e.on i h2;omega
theorem ya1 {α:Type}:∀ {l:List (Nat×α)} {i:Nat} {x:α},xp5 l i=some x→(i,x)∈l
 |[],i,x,h=>by simp[xp5] at h
 |(a,y)::l,i,x,h=>by
  simp only[xp5] at h
  split at h
  ·rename_i e;cases h;subst e;simp
  ·exact List.mem_cons_of_mem _ (ya1 h)
section
variable {A:Array Oper} {nb n0 i:Nat}
theorem q4v :∀ {ws:List (Nat×TW)} {j:Nat} {w:TW},(j,w)∈ws→j≠i→ur3 A i j=false→ur3 A j i=false→∀ x∈w.dead nb n0,x∈vk3 nb n0 A i ws
 |(j',w')::l,j,w,h,h1,h2,h3,x,hx=>by
  simp only[vk3]
  rcases List.mem_cons.1 h with e|e
  ·cases e
   have:(Nat.beq j' i||ur3 A i j'||ur3 A j' i)=false:=by
    rw[h2,h3]
    have:Nat.beq j' i=false:=by
     cases hb:Nat.beq j' i with
     |false=>rfl
     |true=>exact absurd (Nat.eq_of_beq_eq_true hb) h1
    rw[this];rfl
   rw[this]
   exact List.mem_append.2 (.inl hx)
  ·have ih:=q4v (ws:=l) e h1 h2 h3 x hx
   split
   ·exact ih
   ·exact List.mem_append.2 (.inr ih)
theorem ts_mem :∀ {ws:List (Nat×TW)} {j:Nat} {w:TW},(j,w)∈ws→j≠i→ur3 A j i=false→∀ x∈w.ts,x∈w2c A i ws
 |(j',w')::l,j,w,h,h1,h3,x,hx=>by
  simp only[w2c]
  rcases List.mem_cons.1 h with e|e
  ·cases e
   have:(Nat.beq j' i||ur3 A j' i)=false:=by
    rw[h3]
    have:Nat.beq j' i=false:=by
     cases hb:Nat.beq j' i with
     |false=>rfl
     |true=>exact absurd (Nat.eq_of_beq_eq_true hb) h1
    rw[this];rfl
   rw[this]
   exact List.mem_append.2 (.inl hx)
  ·have ih:=ts_mem (ws:=l) e h1 h3 x hx
   split
   ·exact ih
   ·exact List.mem_append.2 (.inr ih)
end
theorem kr8 :∀ {ws:List (Nat×TW)} {j:Nat} {w:TW},(j,w)∈ws→∀ x∈w.ts,x∈w2b ws
 |(j',w')::l,j,w,h,x,hx=>by
  simp only[w2b]
  rcases List.mem_cons.1 h with e|e
  ·cases e;exact List.mem_append.2 (.inl hx)
  ·exact List.mem_append.2 (.inr (kr8 e x hx))
theorem yh6 {A:Array Oper}{fr:List AV}{val val':Nat→AV}:∀ i,(∀ j,j<i→val' j=val j)→wr4 A fr val' i=wr4 A fr val i
 |0,_=>rfl
 |i+1,h=>by simp only[wr4,yh6 i fun j hj=>h j (by omega),h i (by omega)]
theorem vi9 {wr wr':Nat→Option HW}{s0:List Ob}{K n i:Nat}(h:∀ j,j<i→wr' j=wr j):∀ m,SR wr' s0 K n (ltL i) m=SR wr s0 K n (ltL i) m:=by
 have hb:∀ m,wl1 wr' s0 K (ltL i) m=wl1 wr s0 K (ltL i) m:=by
  intro m
  induction m with
  |zero=>rfl
  |succ m ih =>
   simp only[wl1,ih]
   by_cases hm:m<i
   ·rw[h m hm]
   ·have e:ltL i m=false:=by simp[ltL,hm]
    simp only[e]
    cases wr' m with
    |none=>cases wr m with
     |none=>rfl
     |some w=>cases w<;>rfl
    |some w=>cases w<;>(cases wr m with
     |none=>rfl
     |some w=>cases w<;>rfl)
 intro m
 induction m with
 |zero=>exact hb n
 |succ m ih =>
  simp only[SR,ih]
  by_cases hm:m<i
  ·rw[h m hm]
  ·have e:ltL i m=false:=by simp[ltL,hm]
   simp only[e]
   rfl
theorem vh0 (i:Nat):ltL (i+1)=va8 (ltL i) i:=by
 funext j
 simp only[ltL,va8]
 by_cases h:j=i
 ·subst h;simp
 ·rw[if_neg h]
  congr 1
  simp only[eq_iff_iff]
  omega
section
variable (P:Program) (A:Array Oper) (n nb n0 K:Nat) (s0:List Ob) (ws:List (Nat×TW)) (fr0:List AV)
def frV (val:Nat→AV)(i:Nat):List AV:=q67 (w2c A i ws) (wr4 A fr0 val i)
def svV (wr:Nat→Option HW)(i:Nat):List Ob:=q5k (vk3 nb n0 A i ws) (w2c A i ws) 0 (SR wr s0 K n (ltL i) n)
def Mt (j:Nat)(w:Option HW):Prop:=match xp5 ws j with
 |none=>w=none
 |some (.alloc r)=>∃ cs t,w=some (.alloc (nb+r) cs t)
 |some (.store o i)=>∃ ob,w=some (.store (ky0 nb n0 (.store o i)) ob)
 |some (.app t0)=>w=some (.app [t0])
def PF (i:Nat)(o:Oper)(val:Nat→AV)(wr:Nat→Option HW):Prop:=Mt nb n0 ws i (wr i) ∧
 ((q85 A (frV A ws fr0 val i) o=some false∧val i=.tuple []∧wr i=none) ∨
 (q85 A (frV A ws fr0 val i) o=some true∧match wr i with
  |none=>(val i).refs nb=true∧yu8 P A o (frV A ws fr0 val i) (svV A n nb n0 K s0 ws wr i) (val i)
  |some (.alloc idx cs t)=>o.op=.alloc t∧z98 P t=some cs∧val i=.ref idx 0∧nb≤idx∧idx<nb+K
  |some (.store idx ob)=>val i=.tuple []∧qf0 nb ob.cs=true∧HStore P A o (frV A ws fr0 val i) (svV A n nb n0 K s0 ws wr i) idx ob
  |some (.app t')=>(val i).refs nb=true∧k91 P A o (frV A ws fr0 val i) t' (val i)))
end
section
variable {P:Program} {A:Array Oper} {n nb n0 K:Nat} {s0:List Ob} {ws:List (Nat×TW)} {fr0:List AV}
theorem PF.congr {i:Nat}{o:Oper}{val val':Nat→AV}{wr wr':Nat→Option HW}(h:PF P A n nb n0 K s0 ws fr0 i o val wr)(h1:∀ j,j≤i→val' j=val j)(h2:∀ j,j≤i→wr' j=wr j):PF P A n nb n0 K s0 ws fr0 i o val' wr':=by
 have e1:frV A ws fr0 val' i=frV A ws fr0 val i:=by unfold frV;rw[yh6 i fun j hj=>h1 j (by omega)]
 have e2:svV A n nb n0 K s0 ws wr' i=svV A n nb n0 K s0 ws wr i:=by unfold svV;rw[vi9 (wr:=wr) (wr':=wr') fun j hj=>h2 j (by omega)]
 unfold PF at h ⊢
 rw[h2 i (Nat.le_refl _),h1 i (Nat.le_refl _),e1,e2]
 exact h
theorem ancq_iff (hlt:∀ (f j i:Nat),zw5 A f j i=true→i<j)(i j:Nat):ur3 A i j=true↔zw5 A A.size i j=true:=by
 unfold ur3
 constructor
 ·intro h;rw[Bool.and_eq_true] at h;exact h.2
 ·intro h
  rw[Bool.and_eq_true]
  exact⟨by rw[Nat.blt_eq];exact hlt _ _ _ h,h⟩
theorem HF3_of {val:Nat→AV}{wr:Nat→Option HW}{L:Nat}(hok:v25 A n L=true)(hws:wsOK A n nb n0 ws=true)(hpf:∀ i,i<n→∀ o,A[i]?=some o→PF P A n nb n0 K s0 ws fr0 i o val wr)(hwr:∀ j,n≤j→wr j=none):
  ∀ i,i<n→∀ o,A[i]?=some o→HF3 P A n nb K s0 wr fr0 val (fun i=>w2c A i ws) (svV A n nb n0 K s0 ws wr) i o:=by
 obtain⟨c1,c2,c3,c4,c5⟩:=zq0 hok
 have hlt:=kw0 (A:=A) fun i o h=>(c2 i o h).1
 have hq:=ancq_iff hlt
 have hqf:∀ i j,zw5 A A.size i j=false→ur3 A i j=false:=fun i j h=>by
  cases hh:ur3 A i j with
  |false=>rfl
  |true=>rw[(hq i j).1 hh] at h;cases h
 have hmt:∀ j,j<n→Mt nb n0 ws j (wr j):=fun j hj=>(hpf j hj A[j] (Array.getElem?_eq_getElem (by omega))).1
 -- an operation that turns something is listed
 have hl:∀ j W,wr j=some W→∃ w,(j,w)∈ws∧(match W,w with
   |.alloc idx cs t,.alloc r=>idx=nb+r
   |.store idx ob,.store o i=>idx=ky0 nb n0 (.store o i)
   |.app ts,.app t0=>ts=[t0]
   |_,_=>False):=by
  intro j W hW
  have hj:j<n:=by
   rcases Nat.lt_or_ge j n with h|h
   ·exact h
   ·rw[hwr j h] at hW;cases hW
  have hm:=hmt j hj
  unfold Mt at hm
  rw[hW] at hm
  cases hlk:xp5 ws j with
  |none=>rw[hlk] at hm;cases hm
  |some w =>
   rw[hlk] at hm
   refine⟨w,ya1 hlk,?_⟩
   cases w with
   |alloc r=>obtain⟨cs,t,e⟩:=hm;cases e;rfl
   |store o i=>obtain⟨ob,e⟩:=hm;cases e;rfl
   |app t0=>cases hm;rfl
 have hpair:∀ {j i:Nat} {w w':TW},(j,w)∈ws→(i,w')∈ws→u72 nb n0 A j i w w'=true:=by
  intro j i w w' h1 h2
  have:=List.all_eq_true.1 hws _ h1
  rw[Bool.and_eq_true] at this
  exact List.all_eq_true.1 this.2 _ h2
 have hts:∀ i j,j≠i→zw5 A A.size j i=false→∀ t∈HW.ts (wr j),t∈w2c A i ws:=by
  intro i j hji ha t ht
  cases hW:wr j with
  |none=>rw[hW] at ht;cases ht
  |some W =>
   obtain⟨w,hw,hm⟩:=hl j W hW
   rw[hW] at ht
   cases W with
   |app ts =>
    cases w with
    |app t0=>subst hm;exact ts_mem hw hji (hqf _ _ ha) t ht
    |_=>exact hm.elim
   |_=>cases ht
 have hchain:∀ i,(∃ W,wr i=some W∧∀ idx cs t,W≠.alloc idx cs t)→∀ j,i<j→j<n→(∀ s,ut2 (wr j) s=s)∨zw5 A A.size j i=true:=by
  rintro i ⟨W,hW,hna⟩ j hij hj
  cases hV:wr j with
  |none=>exact .inl fun _=>rfl
  |some V =>
   obtain⟨w,hw,hm⟩:=hl i W hW
   obtain⟨v,hv,hm2⟩:=hl j V hV
   have hp:=hpair hw hv
   have hbe:Nat.beq i j=false:=by
    cases hb:Nat.beq i j with
    |false=>rfl
    |true=>have:=Nat.eq_of_beq_eq_true hb;omega
   have fin:(Nat.beq i j||ur3 A j i||ur3 A i j)=true→zw5 A A.size j i=true:=by
    intro h
    rw[hbe,Bool.false_or,Bool.or_eq_true] at h
    rcases h with h|h
    ·exact(hq _ _).1 h
    ·have:=hlt _ _ _ ((hq _ _).1 h);omega
   cases V with
   |alloc=>exact .inl fun _=>rfl
   |store idx ob =>
    right
    cases v with
    |store o x =>
     cases W with
     |alloc idx cs t=>exact absurd rfl (hna _ _ _)
     |store=>cases w with
      |store=>exact fin hp
      |_=>exact hm.elim
     |app=>cases w with
      |app=>exact fin hp
      |_=>exact hm.elim
    |_=>exact hm2.elim
   |app ts =>
    right
    cases v with
    |app t0 =>
     cases W with
     |alloc idx cs t=>exact absurd rfl (hna _ _ _)
     |store=>cases w with
      |store=>exact fin hp
      |_=>exact hm.elim
     |app=>cases w with
      |app=>exact fin hp
      |_=>exact hm.elim
    |_=>exact hm2.elim
 intro i hi o ho
 obtain⟨_,hw⟩:=hpf i hi o ho
 refine⟨?_,fun j hj hji ha=>hts i j hji ha,?_⟩
 ·intro L hadm
  refine(SR_rel ?_ n (Nat.le_refl _)).msk
  intro j hj hne
  have hji:j≠i:=by
   intro e;subst e
   rw[hadm.un] at hne
   simp[ltL] at hne
  have h1:zw5 A A.size i j=false:=by
   cases hh:zw5 A A.size i j with
   |false=>rfl
   |true =>
    exfalso
    apply hne
    rw[hadm.anc j hh]
    simp[ltL,hlt _ _ _ hh]
  have h2:zw5 A A.size j i=false:=by
   cases hh:zw5 A A.size j i with
   |false=>rfl
   |true =>
    exfalso
    apply hne
    rw[hadm.dec j hh]
    have:=hlt _ _ _ hh
    simp only[ltL]
    symm
    simp
    omega
  cases hW:wr j with
  |none=>trivial
  |some W =>
   obtain⟨w,hw,hm⟩:=hl j W hW
   have hd:=q4v (nb:=nb) (n0:=n0) hw hji (hqf _ _ h1) (hqf _ _ h2)
   cases W with
   |alloc idx cs t =>
    cases w with
    |alloc r=>simp only at hm;subst hm;exact hd _ (by simp[TW.dead])
    |_=>exact hm.elim
   |store idx ob =>
    cases w with
    |store o x=>simp only at hm;subst hm;exact hd _ (by cases o<;>simp[TW.dead,ky0])
    |_=>exact hm.elim
   |app ts =>
    cases w with
    |app t0=>simp only at hm;subst hm;exact ts_mem hw hji (hqf _ _ h2)
    |_=>exact hm.elim
 ·rcases hw with hw|⟨hw1,hw2⟩
  ·exact .inl hw
  ·refine .inr ⟨hw1,?_⟩
   cases hW:wr i with
   |none=>rw[hW] at hw2;exact hw2
   |some W =>
    rw[hW] at hw2
    cases W with
    |alloc idx cs t =>
     obtain⟨k1,k2,k3,k4,k5⟩:=hw2
     obtain⟨w,hwm,hm⟩:=hl i _ hW
     refine⟨k1,k2,k3,k4,k5,?_,?_⟩
     ·intro j idx' cs' t' hji hj
      obtain⟨w',hwm',hm'⟩:=hl j _ hj
      cases w with
      |alloc r =>
       cases w' with
       |alloc r' =>
        have hp:=hpair hwm hwm'
        simp only[u72,Bool.or_eq_true,Bool.not_eq_true'] at hp
        simp only at hm hm'
        intro e
        rcases hp with hp|hp
        ·exact hji (Nat.eq_of_beq_eq_true hp).symm
        ·have:r=r':=by omega
         subst this
         rw[Nat.beq_refl] at hp
         cases hp
       |_=>exact hm'.elim
      |_=>exact hm.elim
     ·intro j ob hj
      obtain⟨w',hwm',hm'⟩:=hl j _ hj
      cases w with
      |alloc r =>
       cases w' with
       |store o x =>
        have hp:=hpair hwm hwm'
        simp only[u72,Bool.or_eq_true,Bool.not_eq_true'] at hp
        simp only at hm hm'
        rcases hp with hp|hp
        ·exfalso
         have:((TW.store o x).dead nb n0).contains (nb+r)=true:=by
          rw[← hm,hm']
          cases o<;>simp[TW.dead,ky0]
         rw[this] at hp
         cases hp
        ·exact(hq _ _).1 hp
       |_=>exact hm'.elim
      |_=>exact hm.elim
    |store idx ob=>exact⟨hw2.1,hw2.2.1,hw2.2.2,hchain i ⟨_,hW,fun _ _ _ h=>by cases h⟩⟩
    |app t'=>exact⟨hw2.1,hw2.2,hchain i ⟨_,hW,fun _ _ _ h=>by cases h⟩⟩
end
section
variable {β:Type} {sc:Sc} {cf:Cfg} {b:β}
theorem u34 {ts:List Nat}{v:TV}{t:Bool}(h:xi6 ts v=.bool t):v=.bool t:=by
 cases v<;>simp only[xi6,wd3] at h<;>try exact h
 all_goals
  rename_i g
  cases g<;>simp only[wd3] at h<;>(try split at h)<;>simp[qq3] at h
theorem v89 (ts:List Nat)(fr:List TV)(t:Nat):(zb8 ts fr).getD t .undef=xi6 ts (fr.getD t .undef):=by
 unfold zb8
 rw[List.getD_eq_getElem?_getD,List.getElem?_map,List.getD_eq_getElem?_getD]
 cases fr[t]? with
 |none=>rfl
 |some x=>rfl
theorem v35 (hC:q13 sc.P cf.C){A:Array Oper}{o:Oper}{frv fr:List TV}{sv:List TOb}{k:List TV→TV→Option β}(hfr:∀ (ct:Nat) (t:Bool),frv.getD ct .undef=.bool t→dn (fr.getD ct .undef)=.bool t)
  (h:zk9 sc cf o.op frv sv fr k=some b):∃ fr' v,k fr' v=some b∧dns fr'=dns fr∧yu8 sc.P A o (dns frv) (dnS sv) (dn v):=by
 have viaPure:(match u32 sc.P sc.wrap frv sv o.op with
   |some (g,v)=>cond g (k fr v) none
   |none=>none)=some b→∃ fr' v,k fr' v=some b∧dns fr'=dns fr∧yu8 sc.P A o (dns frv) (dnS sv) (dn v):=by
  intro h
  split at h
  ·rename_i g v h1
   obtain⟨h2,h3⟩:=qb4 h
   obtain⟨a,h4,h5⟩:=uo8 h1 h2
   exact⟨fr,v,h3,rfl,(uf5 (A:=A) h4).weaken h5⟩
  ·cases h
 obtain⟨dst,op,type,pos,after,guard⟩:=o
 unfold zk9 at h
 dsimp only at h
 split at h
 ·rename_i c x y
  have pick:∀ {t:Bool} {fr2:List TV} {z:Operand},dns fr2=dns fr→q42 (dns frv) c=.bool t→z=(if t=true then x else y)→k fr2 (q87 frv z)=some b →
    ∃ fr' v,k fr' v=some b∧dns fr'=dns fr∧yu8 sc.P A ⟨dst,.pick c x y,type,pos,after,guard⟩ (dns frv) (dnS sv) (dn v):=by
   intro t fr2 z h1 h2 h3 h4
   refine⟨fr2,_,h4,h1,uf5 ?_⟩
   rw[q64]
   simp only[qo3,h2]
   subst h3
   cases t<;>rfl
  split at h
  ·rename_i hc
   exact pick (t:=true) rfl (by rw[← q64,hc];rfl) rfl h
  ·rename_i hc
   exact pick (t:=false) rfl (by rw[← q64,hc];rfl) rfl h
  ·rename_i t hc
   split at h
   ·rename_i ct
    have hc':dn (fr.getD ct .undef)=.bool t:=hfr ct t hc
    simp only[j35] at h
    cases t with
    |true=>exact pick (t:=true) (qk4 (by rw[hc'];rfl)) (by rw[← q64,hc];rfl) rfl h
    |false=>exact pick (t:=false) (qk4 (by rw[hc'];rfl)) (by rw[← q64,hc];rfl) rfl h
   ·cases h
  ·cases h
 ·rename_i c
  split at h
  ·rename_i x hc
   split at h
   ·rename_i f fcs hf
    rw[w55] at h
    have hf':q42 (dns frv) x=.func (.func f) (dns fcs):=by rw[← q64,hf];rfl
    have hargs:dns ((c.args.toList.map fun y=>u35 (q87 frv y))++fcs)=(c.args.toList.map fun y=>(q42 (dns frv) y).soft)++dns fcs:=by rw[y13,← vj4]
    split at h
    ·rename_i hfree
     obtain⟨hen,r,s',hok,hk'⟩:=hC f β _ [] _ b h
     split at hk'
     ·rename_i hr
      have hfa:=qy3 _ hfree
      rw[hargs] at hok hfa
      refine⟨fr,_,hk',rfl,?_⟩
      rw[qo9]
      exact kv0 rfl hc hf' hen (hok.weaken (AV.plain_wk _)) hfa (xp2 (zp1 r hr)) (AV.mark_plain _)
     ·cases hk'
    ·rw[w55] at h
     split at h
     ·rename_i hfree
      obtain⟨hen,r,s',hok,hk'⟩:=hC f β _ [] _ b h
      split at hk'
      ·rename_i hr
       refine⟨fr,_,hk',rfl,?_⟩
       rw[qo9]
       refine kv1 rfl hc hf' hen (hok.weaken (AV.plain_wk _)) (fun M G w cv hS hcv=>?_) (q8i (xz7 r hr)) (AV.mark_plain _)
       rw[← hargs] at hcv
       exact uo6 hS 4 _ cv hfree hcv
      ·cases hk'
     ·cases h
   ·cases h
  ·exact viaPure h
 ·exact viaPure h
theorem k91.more {P:Program}{A:Array Oper}{o:Oper}{fr:List AV}{v:AV}(h:k91 P A o fr [] v)(ts:List Nat):k91 P A o fr ts v :=
 fun M G w a s hF hS hf K Q hK=>h M G w a s hF hS hf K Q fun cv G' w' h1 h2 h3=>hK cv G' w' (h1.mono fun _ _ h=>absurd h.2 (by simp)) (by rw[wz4] at h2;exact h2.weaken (wl7 _ _)) h3
theorem HApp_none {P:Program}{A:Array Oper}{o:Oper}{fr:List AV}{c:Call}{x y:Operand}{t e:TypeId}{cs:List AV}{n size:Nat}{g g2:Tag}(ho:o.op=.call c)(hc:c.callee=.builtin .append)(ha:c.args=#[x,y])(ht:c.argTypes=#[t,t])(he:wr5 P t=some (e,size))
  (hx:q42 fr x=.list cs n g) (hy:q42 fr y=.list [] 0 g2):k91 P A o fr [] (.list cs n g):=by
 intro M G w a s hF hS hf K Q hK
 have hm:∀ z,z=x∨z=y→q42 (qb8 (qb6 A o) fr) z=q42 fr z:=fun z hz=>qk2 (by simp[ho,Op.operands,Call.operands,ha];rcases hz with rfl|rfl<;>simp)
 obtain⟨cv,h1,h2⟩:=qn0 (s:=s) ho hc ha ht he ((hm x (.inl rfl)).trans hx) ((hm y (.inr rfl)).trans hy) M G w a hS hf
 unfold Oper.wp
 rw[h1,Oper.upon_value]
 exact hK cv G w (Ext.refl _ _ _) (by rw[wz4];exact hS) (by rw[hm x (.inl rfl),hx] at h2;exact h2)
theorem Sim.reTag {M:Nat→Prop}{G:Gh}{s:List Ob}{w:World}(h:Sim M G s w)(M2:Nat→Prop)(ρ:Nat→Nat)(hk:∀ (i:Nat) (o:Ob),s[i]?=some o→∀ a∈o.cs,∀ t,a.mark=some t→∀ g,M2 g→G.tg g≠t):Sim M (G.ren M2 ρ) s w:=by
 refine⟨h.n,h.inj,h.own,h.live,h.lt,fun i o hi hl=>?_⟩
 obtain⟨vs,h1,h2,h3⟩:=h.at_ i o hi hl
 refine⟨vs,h1,h2,fun k a v ha hv=>⟨VR0.mono (Ext.ren G w M2 ρ) a v (h3 k a v ha hv).1,?_⟩⟩
 have ho:=(h3 k a v ha hv).2
 cases a with
 |list cs n g =>
  cases g with
  |own t e z =>
   simp only[qe9] at ho ⊢
   rcases ho with ho|⟨q,cap,cur,k1,k2,k3,k4,k5,k6,k7⟩
   ·exact .inl ho
   ·refine .inr ⟨q,cap,cur,k1,k2,k3,k4,k5,?_,k7⟩
    simp only[Gh.ren]
    rw[if_neg fun hh=>hk i o hi _ (List.mem_of_getElem? ha) t rfl q hh k6]
    exact k6
  |_=>exact qe9.of_plain rfl
 |_=>exact qe9.of_plain rfl
theorem jf2 {P:Program}{A:Array Oper}{o:Oper}{fr:List AV}{c:Call}{x y:Operand}{t e:TypeId}{cs:List AV}{n size m:Nat}{g g2:Tag}(d:Nat)(ho:o.op=.call c)(hc:c.callee=.builtin .append)(ha:c.args=#[x,y])(ht:c.argTypes=#[t,t])(he:wr5 P t=some (e,size))
  (hx:q42 fr x=.list cs n g) (hy:q42 fr y=.list [] 0 g2) (hmk:∀ q,(AV.list cs n g).mark=some q→q=m):k91 P A o fr [m] ((AV.list cs n g).ren fun _=>d):=by
 intro M G w a s hF hS hf K Q hK
 have hm:∀ z,z=x∨z=y→q42 (qb8 (qb6 A o) fr) z=q42 fr z:=fun z hz=>qk2 (by simp[ho,Op.operands,Call.operands,ha];rcases hz with rfl|rfl<;>simp)
 obtain⟨cv,h1,h2⟩:=qn0 (s:=s) ho hc ha ht he ((hm x (.inl rfl)).trans hx) ((hm y (.inr rfl)).trans hy) M G w a hS hf
 rw[hm x (.inl rfl),hx] at h2
 unfold Oper.wp
 rw[h1,Oper.upon_value]
 have hE:=Ext.ren G w (fun b=>M b∧G.tg b∈[m]) (fun _=>d)
 refine hK cv (G.ren (fun b=>M b∧G.tg b∈[m]) fun _=>d) w hE ?_ ?_
 ·refine(hS.weaken (wl7 [m] s)).reTag _ _ fun i o hi b hb q hq g hg=>?_
  unfold q78 at hi
  rw[List.getElem?_map] at hi
  obtain⟨o0,_,rfl⟩:=q54 hi
  obtain⟨b0,_,rfl⟩:=List.mem_map.1 hb
  have h4:=qz7 hq
  intro h5
  rw[← h5] at h4
  simp only[List.contains_eq_mem,decide_eq_false_iff_not] at h4
  exact h4 hg.2
 ·have h3:=h2.2
  refine⟨VR0.mono hE _ _ ?_,?_⟩
  ·have h4:=h2.1
   cases g with
   |own t0 e0 z0 =>
    simp only[AV.ren,VR0] at h4 ⊢
    obtain⟨A,cap,k1,k2,_,k4⟩:=h4
    exact⟨A,cap,k1,k2,(fun h=>by cases h),k4⟩
   |_=>exact h4
  cases g with
  |own t0 e0 z0 =>
   have:=hmk t0 rfl
   subst this
   simp only[AV.ren,qe9] at h3 ⊢
   rcases h3 with h3|⟨q,cap,cur,k1,k2,k3,k4,k5,k6,k7⟩
   ·exact .inl h3
   ·exact .inr ⟨q,cap,cur,k1,k2,k3,k4,k5,by simp only[Gh.ren];rw[if_pos ⟨k2,by simp[k6]⟩],k7⟩
  |_=>exact qe9.of_plain rfl
theorem q4y (d:Nat)(v:TV):dn (q3a (fun _=>d) v)=(dn v).ren fun _=>d:=vk8 _ v
theorem q2q {P:Program}{A:Array Oper}{o:Oper}{fr fr':List TV}{s s':List TOb}{c:Call}{x y:Operand}{t:TypeId}{d d2 m:Nat}{g:Bool}{v:TV}(ho:o.op=.call c)(hc:c.callee=.builtin .append)(ha:c.args=#[x,y])(ht:c.argTypes=#[t,t])
  (h:xz1 P d fr s t (q87 fr x) (q87 fr y)=some (g,fr',v,s')) (hg:gdP g) (hm:wd3 v=some m):k91 P A o (dns fr) [m] (dn (q3a (fun _=>d2) v)):=by
 unfold xz1 at h
 split at h
 ·cases h
 rename_i e size he
 split at h
 ·rename_i gy hy
  have hy':q42 (dns fr) y=.list [] 0 gy:=by rw[← q64,hy];rfl
  split at h
  ·rename_i ty xs gx hx
   cases h
   have hx':q42 (dns fr) x=.list (xs.flatMap (q50 ty)) xs.length gx:=by rw[← q64,hx];rfl
   rw[hx] at hm ⊢
   rw[q4y]
   exact jf2 d2 ho hc ha ht he hx' hy' fun q hq=>by
    have e:(dn (.tl ty xs gx)).mark=some q:=hq
    rw[za3,hm] at e
    exact(Option.some.inj e).symm
  ·rename_i gx hx
   cases h
   have hx':q42 (dns fr) x=.list [] 0 gx:=by rw[← q64,hx];rfl
   rw[hx] at hm ⊢
   rw[q4y]
   exact jf2 d2 ho hc ha ht he hx' hy' fun q hq=>by
    have e:(dn (.ll [] 0 gx)).mark=some q:=hq
    rw[za3,hm] at e
    exact(Option.some.inj e).symm
  ·cases h
 ·rename_i ty ys gy hy
  have hy':q42 (dns fr) y=.list (ys.flatMap (q50 ty)) ys.length gy:=by rw[← q64,hy];rfl
  split at h
  ·rename_i hcnd
   obtain⟨hs,h0⟩:=hcnd
   split at h
   ·rename_i xs t0 hown
    cases h
    have ht0:t0=m:=by simpa[wd3] using hm
    subst ht0
    have hfit:=fits_of h0 (by simpa only[gdP,uv0] using hg)
    obtain⟨xv,hxv⟩:∃ xv,q87 fr x=xv:=⟨_,rfl⟩
    have hx':q42 (dns fr) x=dn xv:=by rw[← q64,hxv]
    rw[hxv] at hown
    have own:∀ {zs:List (El ty)},q42 (dns fr) x=.list (zs.flatMap (q50 ty)) zs.length (.own t0 e size)→yq4 P e size (zs.length+ys.length)=true→k91 P A o (dns fr) [t0] (dn (q3a (fun _=>d2) (.tl ty (zs++ys) (.own t0 e size)))):=by
     intro zs hx2 hfit
     show k91 P A o (dns fr) [t0] (.list ((zs++ys).flatMap (q50 ty)) (zs++ys).length (.own d2 e size))
     rw[List.flatMap_append,List.length_append]
     rcases Nat.eq_zero_or_pos ys.length with hz|hz
     ·have hnil:=List.eq_nil_of_length_eq_zero hz
      subst hnil
      have:=jf2 (A:=A) (m:=t0) d2 ho hc ha ht he hx2 hy' fun q hq=>(Option.some.inj hq).symm
      rw[List.flatMap_nil,List.append_nil]
      exact this
     ·exact HApp_own d2 ho hc ha ht he hx2 hy' hz (by rw[qx7,hs]) (vg8 ys) hfit
    have full:∀ {zs:List (El ty)},q42 (dns fr) x=.list (zs.flatMap (q50 ty)) zs.length .full→yq4 P e size (zs.length+ys.length)=true→k91 P A o (dns fr) [t0] (dn (q3a (fun _=>d2) (.tl ty (zs++ys) (.own t0 e size)))):=by
     intro zs hx2 hfit
     show k91 P A o (dns fr) [t0] (.list ((zs++ys).flatMap (q50 ty)) (zs++ys).length (.own d2 e size))
     rw[List.flatMap_append,List.length_append]
     rcases Nat.eq_zero_or_pos ys.length with hz|hz
     ·have hnil:=List.eq_nil_of_length_eq_zero hz
      subst hnil
      have:=((HApp_none (A:=A) ho hc ha ht he hx2 hy').more [t0]).weaken (WkM.full (t:=d2) (e:=e) (z:=size) (by rw[qx7,hs]))
      rw[List.flatMap_nil,List.append_nil]
      exact this
     ·exact(HApp_full d2 ho hc ha ht he hx2 hy' hz (by rw[qx7,hs]) (by rw[qx7,hs]) (vg8 ys) hfit).more _
    unfold je3 at hown
    split at hown
    ·split at hown
     ·rename_i hc2
      obtain⟨rfl,rfl⟩:=hc2
      obtain⟨zs,h1,h2⟩:=q54 hown
      cases h2
      obtain⟨e1,rfl⟩:=w25 h1
      subst e1
      exact own hx' hfit
     ·cases hown
    ·obtain⟨zs,h1,h2⟩:=q54 hown
     cases h2
     obtain⟨e1,rfl⟩:=w25 h1
     subst e1
     exact full hx' hfit
    ·cases hown
     exact full (zs:=[]) hx' hfit
    ·split at hown
     ·rename_i hc2
      obtain⟨rfl,rfl⟩:=hc2
      cases hown
      exact own (zs:=[]) hx' hfit
     ·cases hown
    ·cases hown
   ·cases h
  ·cases h
 ·cases h
theorem HStore_of {P:Program}{A:Array Oper}{o:Oper}{fr:List TV}{sv s':List TOb}{t:TypeId}{x y:Operand}{g:Bool}{idx:Nat}(ho:o.op=.store t x y)(h:yk6 P sv t (q87 fr x) (q87 fr y)=some (g,s'))(hg:gdP g)(ht:tgtOf (q87 fr x)=some idx)(hi:idx<s'.length):
  HStore P A o (dns fr) (dnS sv) idx (dnO (obAt s' idx)):=by
 have hm:∀ z,z=x∨z=y→q42 (qb8 (qb6 A o) (dns fr)) z=dn (q87 fr z):=fun z hz=>by
  rw[qk2 (by simp[ho,Op.operands];rcases hz with rfl|rfl<;>simp),q64]
 obtain⟨idx',h1,h2⟩:=xi5 ho (hm x (.inl rfl)) (hm y (.inr rfl)) h hg
 rw[ht] at h1
 cases h1
 intro M G w a hS hf
 obtain⟨w',k1,k2,k3,k4,k5,k6⟩:=h2 M G w a hS hf
 exact⟨w',k1,k2,k3,k4,k5,_,k6,by rw[qk0,obAt_eq _ _ hi];rfl⟩
theorem kh2 {γ:Type}{nb:Nat}{fr:List TV}{d:Option Nat}{v:TV}{k:List TV→Option γ}{c:γ}(h:putB nb fr d v k=some c):j08 nb v=true∧k (tPut fr d v)=some c:=by
 unfold putB at h
 rw[zt3] at h
 split at h
 ·rename_i hb;rw[wd2] at h;exact⟨hb,h⟩
 ·cases h
def k54 {α:Type}(f:Nat→α)(i:Nat)(x:α):Nat→α:=fun j=>if j=i then x else f j
theorem qb3 {α:Type}(f:Nat→α)(i:Nat)(x:α):k54 f i x i=x:=by simp[k54]
theorem xz8 {α:Type}{f:Nat→α}{i j:Nat}{x:α}(h:j<i):k54 f i x j=f j:=by simp[k54,Nat.ne_of_lt h]
def mm (nb n0:Nat):HW→TW→Prop
 |.alloc idx cs t,.alloc r=>idx=nb+r
 |.store idx ob,.store o i=>idx=ky0 nb n0 (.store o i)
 |.app ts,.app t0=>ts=[t0]
 |_,_=>False
theorem kv3 {nb n0 j:Nat}{ws:List (Nat×TW)}{W:HW}(hm:Mt nb n0 ws j (some W)):∃ w,(j,w)∈ws∧mm nb n0 W w:=by
 unfold Mt at hm
 cases hlk:xp5 ws j with
 |none=>rw[hlk] at hm;cases hm
 |some w =>
  rw[hlk] at hm
  refine⟨w,ya1 hlk,?_⟩
  cases w with
  |alloc r=>obtain⟨cs,t,e⟩:=hm;cases e;rfl
  |store o i=>obtain⟨ob,e⟩:=hm;cases e;rfl
  |app t0=>cases hm;rfl
theorem ku4 {A:Array Oper}{n nb n0 j i:Nat}{ws:List (Nat×TW)}{w w':TW}(hws:wsOK A n nb n0 ws=true)(h1:(j,w)∈ws)(h2:(i,w')∈ws):u72 nb n0 A j i w w'=true:=by
 have:=List.all_eq_true.1 hws _ h1
 rw[Bool.and_eq_true] at this
 exact List.all_eq_true.1 this.2 _ h2
theorem vp0 (hC:q13 sc.P cf.C){hd:HDat}{A:Array Oper}{nb:Nat}{s0:List Ob}{fr0:List AV}{k:List TV→List TOb→Option β}{L:Nat}(hok:v25 A hd.n L=true)(hws:wsOK A hd.n nb cf.n0 hd.ws=true)(hnb:nb=s0.length):
  ∀ (l:List Oper) (i:Nat) (val:Nat→AV) (wr:Nat→Option HW) (fr:List TV) (s:List TOb),(∀ j,l[j]?=if j<l.length then A[i+j]? else none)→i+l.length=hd.n →
   dns fr=wr4 A fr0 val i→dnS s=SR wr s0 hd.K hd.n (ltL i) hd.n→(∀ j,j<i→∀ o,A[j]?=some o→PF sc.P A hd.n nb cf.n0 hd.K s0 hd.ws fr0 j o val wr)→(∀ j,i≤j→wr j=none) →
   y99 sc cf hd A nb cf.n0 l i fr s k=some b →
   ∃ val' wr' F S,k F S=some b∧dns F=wr4 A fr0 val' hd.n∧dnS S=SR wr' s0 hd.K hd.n (ltL hd.n) hd.n∧(∀ j,j<hd.n→∀ o,A[j]?=some o→PF sc.P A hd.n nb cf.n0 hd.K s0 hd.ws fr0 j o val' wr')∧(∀ j,hd.n≤j→wr' j=none)
 |[],i,val,wr,fr,s,hl,hin,hf,hs,hpf,hwr,h=>by
  have e:i=hd.n:=by simpa using hin
  subst e
  exact⟨val,wr,fr,s,h,hf,hs,hpf,hwr⟩
 |o::l,i,val,wr,fr,s,hl,hin,hf,hs,hpf,hwr,h=>by
  have ho:A[i]?=some o:=by simpa using (hl 0).symm
  have hl':∀ j,l[j]?=if j<l.length then A[i+1+j]? else none:=fun j=>by
   have:=hl (j+1)
   simpa[Nat.add_assoc,Nat.add_comm 1 j] using this
  have hin':i+1+l.length=hd.n:=by rw[← hin,List.length_cons];omega
  have hilt:i<hd.n:=by omega
  have hAsz:i<A.size:=(Array.getElem?_eq_some_iff.1 ho).1
  simp only[y99,x85] at h
  obtain⟨frv,hfrv⟩:∃ frv,frv=zb8 (w2c A i hd.ws) fr:=⟨_,rfl⟩
  rw[← hfrv] at h
  obtain⟨sv,hsv,hmk⟩:=mskK_eq (vk3 nb cf.n0 A i hd.ws) (w2c A i hd.ws) s
  rw[hmk] at h
  have efr:dns frv=frV A hd.ws fr0 val i:=by rw[hfrv,wu0,hf];rfl
  have esv:dnS sv=svV A hd.n nb cf.n0 hd.K s0 hd.ws wr i:=by rw[hsv,hs];rfl
  -- one operation more
  have more:∀ (v:AV) (W:Option HW) (fr2:List TV) (s2:List TOb),dns fr2=vg3 (dns fr) o.dst v→dnS s2=SR (k54 wr i W) s0 hd.K hd.n (ltL (i+1)) hd.n →
    PF sc.P A hd.n nb cf.n0 hd.K s0 hd.ws fr0 i o (k54 val i v) (k54 wr i W)→y99 sc cf hd A nb cf.n0 l (i+1) fr2 s2 k=some b →
    ∃ val' wr' F S,k F S=some b∧dns F=wr4 A fr0 val' hd.n∧dnS S=SR wr' s0 hd.K hd.n (ltL hd.n) hd.n∧(∀ j,j<hd.n→∀ o,A[j]?=some o→PF sc.P A hd.n nb cf.n0 hd.K s0 hd.ws fr0 j o val' wr')∧(∀ j,hd.n≤j→wr' j=none):=by
   intro v W fr2 s2 e1 e2 hp hh
   refine vp0 hC hok hws hnb l (i+1) (k54 val i v) (k54 wr i W) fr2 s2 hl' hin' ?_ e2 ?_ ?_ hh
   ·rw[e1,hf]
    simp only[wr4]
    rw[yh6 (val:=val) (val':=k54 val i v) i fun j hj=>xz8 hj,ho,qb3]
    rfl
   ·intro j hj o' ho'
    by_cases hji:j=i
    ·subst hji
     rw[ho] at ho'
     cases ho'
     exact hp
    ·exact(hpf j (by omega) o' ho').congr (fun q hq=>xz8 (by omega)) fun q hq=>xz8 (by omega)
   ·intro j hj
    simp only[k54]
    rw[if_neg (by omega)]
    exact hwr j (by omega)
  have hfrV:∀ v,frV A hd.ws fr0 (k54 val i v) i=dns frv:=fun v=>by
   rw[efr];unfold frV;rw[yh6 (val:=val) i fun j hj=>xz8 hj]
  have hsvV:∀ W,svV A hd.n nb cf.n0 hd.K s0 hd.ws (k54 wr i W) i=dnS sv:=fun W=>by
   rw[esv];unfold svV;rw[vi9 (wr:=wr) fun j hj=>xz8 hj]
  have hSR:∀ W,SR (k54 wr i W) s0 hd.K hd.n (ltL i) hd.n=dnS s:=fun W=>by
   rw[hs,vi9 (wr:=wr) fun j hj=>xz8 hj]
  have hSRn:SR (k54 wr i none) s0 hd.K hd.n (ltL (i+1)) hd.n=dnS s:=by
   rw[vh0,vi8 hilt (by simp[ltL]) (by rw[qb3];intro _ _ _ h;cases h) (by rw[qb3];intro h;exact absurd rfl h),qb3,hSR]
   rfl
  have hnone:∀ j,i<j→∀ W s',ut2 (k54 wr i W j) s'=s':=fun j hj W s'=>by
   simp only[k54]
   rw[if_neg (by omega),hwr j (by omega)]
   rfl
  have hMtn:xp5 hd.ws i=none→Mt nb cf.n0 hd.ws i none:=fun hlk=>by unfold Mt;rw[hlk]
  -- it is carried out, and turns nothing
  have pure:∀ (fr2:List TV),dns fr2=dns fr→xp5 hd.ws i=none→q85 A (dns frv) o=some true→zk9 sc cf o.op frv sv fr2 (fun fr v=>putB nb fr o.dst v fun fr=>y99 sc cf hd A nb cf.n0 l (i+1) fr s k)=some b →
    ∃ val' wr' F S,k F S=some b∧dns F=wr4 A fr0 val' hd.n∧dnS S=SR wr' s0 hd.K hd.n (ltL hd.n) hd.n∧(∀ j,j<hd.n→∀ o,A[j]?=some o→PF sc.P A hd.n nb cf.n0 hd.K s0 hd.ws fr0 j o val' wr')∧(∀ j,hd.n≤j→wr' j=none):=by
   intro fr2 e2 hlk hw hx
   have hts2:∀ (ct:Nat) (t:Bool),frv.getD ct .undef=.bool t→dn (fr2.getD ct .undef)=.bool t:=by
    intro ct t hc
    rw[← w66,e2,w66]
    rw[hfrv,v89] at hc
    rw[u34 hc]
    rfl
   obtain⟨fr3,v,h1,h2,h3⟩:=v35 (A:=A) hC hts2 hx
   obtain⟨h4,h5⟩:=kh2 h1
   refine more (dn v) none _ s (by rw[w08,h2,e2]) hSRn.symm ⟨by rw[qb3];exact hMtn hlk,.inr ⟨by rw[hfrV];exact hw,?_⟩⟩ h5
   rw[qb3,qb3,hfrV,hsvV]
   exact⟨jp0 v h4,h3⟩
  have skip:∀ (fr2:List TV),dns fr2=dns fr→xp5 hd.ws i=none→q85 A (dns frv) o=some false→jf0 fr2 o.dst (.tup []) (fun fr=>y99 sc cf hd A nb cf.n0 l (i+1) fr s k)=some b →
    ∃ val' wr' F S,k F S=some b∧dns F=wr4 A fr0 val' hd.n∧dnS S=SR wr' s0 hd.K hd.n (ltL hd.n) hd.n∧(∀ j,j<hd.n→∀ o,A[j]?=some o→PF sc.P A hd.n nb cf.n0 hd.K s0 hd.ws fr0 j o val' wr')∧(∀ j,hd.n≤j→wr' j=none):=by
   intro fr2 e2 hlk hw hx
   rw[wd2] at hx
   refine more (.tuple []) none _ s (by rw[w08,e2];rfl) hSRn.symm ⟨by rw[qb3];exact hMtn hlk,.inl ⟨by rw[hfrV];exact hw,qb3 _ _ _,qb3 _ _ _⟩⟩ hx
  split at h
  ·rename_i w hlk
   split at h
   ·rename_i hg
    have hw:q85 A (dns frv) o=some true:=by unfold q85;rw[hg]
    obtain⟨dst,op,type,pos,after,guard⟩:=o
    unfold writeH at h
    dsimp only at h
    split at h
    ·rename_i r t
     split at h
     ·rename_i cs hz
      split at h
      ·rename_i hr
       rw[qu6,wd2] at h
       have hrK:r<hd.K:=by rw[Nat.blt_eq] at hr;exact hr
       have hz':=uo9 hz
       refine more (.ref (nb+r) 0) (some (.alloc (nb+r) (dns cs) t)) _ _ (by rw[w08];rfl) ?_ ⟨by rw[qb3];unfold Mt;rw[hlk];exact⟨_,_,rfl⟩,.inr ⟨by rw[hfrV];exact hw,?_⟩⟩ h
       ·rw[vh0,q4g (i:=i) (idx:=nb+r) (cs:=dns cs) (t:=t) hilt (by simp[ltL]) (qb3 _ _ _) ?_ ?_ ?_,hSR]
        ·rw[vk7];rfl
        ·intro j idx' cs' t' hji hj e
         simp only[k54] at hj
         rw[if_neg hji] at hj
         rcases Nat.lt_or_ge j i with hlt|hge
         ·have hp:=(hpf j hlt (A[j]'(by omega)) (Array.getElem?_eq_getElem (by omega))).1
          rw[hj] at hp
          obtain⟨w',hw',hm'⟩:=kv3 hp
          cases w' with
          |alloc r' =>
           have hpp:=ku4 hws hw' (ya1 hlk)
           simp only[u72,Bool.or_eq_true,Bool.not_eq_true'] at hpp
           simp only[mm] at hm'
           rcases hpp with hpp|hpp
           ·exact hji (Nat.eq_of_beq_eq_true hpp)
           ·have:r'=r:=by omega
            subst this
            rw[Nat.beq_refl] at hpp
            cases hpp
          |_=>exact hm'.elim
         ·rw[hwr j hge] at hj;cases hj
        ·intro j idx' ob hl hj e
         simp only[ltL,decide_eq_true_eq] at hl
         simp only[k54] at hj
         rw[if_neg (by omega)] at hj
         have hp:=(hpf j hl (A[j]'(by omega)) (Array.getElem?_eq_getElem (by omega))).1
         rw[hj] at hp
         obtain⟨w',hw',hm'⟩:=kv3 hp
         cases w' with
         |store o' x' =>
          have hpp:=ku4 hws (ya1 hlk) hw'
          simp only[u72,Bool.or_eq_true,Bool.not_eq_true'] at hpp
          simp only[mm] at hm'
          rcases hpp with hpp|hpp
          ·have:((TW.store o' x').dead nb cf.n0).contains (nb+r)=true:=by
            rw[← e,hm']
            cases o'<;>simp[TW.dead,ky0]
           rw[this] at hpp
           cases hpp
          ·unfold ur3 at hpp
           rw[Bool.and_eq_true,Nat.blt_eq] at hpp
           omega
         |_=>exact hm'.elim
        ·obtain⟨inf,z,_,_,e⟩:=j44 hz'
         rw[e]
         intro a ha
         obtain⟨u,_,rfl⟩:=List.mem_map.1 ha
         exact j49 u
       ·rw[qb3,qb3]
        exact⟨rfl,hz',rfl,by omega,by omega⟩
      ·cases h
     ·cases h
    ·rename_i own ix t x y
     split at h
     ·rename_i g s' hst
      split at h
      ·rename_i idx htg
       split at h
       ·rename_i hidx
        rw[Bool.and_eq_true,Nat.blt_eq] at hidx
        have hidx1:=Nat.eq_of_beq_eq_true hidx.1
        rw[kd5] at h
        split at h
        ·rename_i hbo
         obtain⟨hg1,h⟩:=qb4 h
         rw[qu6,wd2] at h
         refine more (.tuple []) (some (.store idx (dnO (obAt s' idx)))) _ _ (by rw[w08];rfl) ?_ ⟨by rw[qb3];unfold Mt;rw[hlk,hidx1];exact⟨_,rfl⟩,.inr ⟨by rw[hfrV];exact hw,?_⟩⟩ h
         ·rw[vh0,vi8 hilt (by simp[ltL]) (by rw[qb3];intro _ _ _ h;cases h) (fun _ j hj _=>hnone j hj _),qb3,hSR]
          exact vk7 _ _ _
         ·rw[qb3,qb3,hfrV,hsvV]
          exact⟨rfl,kw1 hbo,HStore_of rfl hst hg1 htg hidx.2⟩
        ·cases h
       ·cases h
      ·cases h
     ·cases h
    ·rename_i t0 c
     split at h
     ·rename_i hcl
      split at h
      ·rename_i x y t t' hargs htys
       split at h
       ·rename_i htt
        subst htt
        split at h
        ·rename_i g fr' v s' hap
         split at h
         ·rename_i m hm
          split at h
          ·rename_i hmt
           have hmt:=Nat.eq_of_beq_eq_true hmt
           subst hmt
           obtain⟨hg1,h⟩:=qb4 h
           rw[qu6] at h
           obtain⟨hb1,h⟩:=kh2 h
           have ha:c.args=#[x,y]:=by
            apply Array.ext'
            rw[hargs]
           have ht:c.argTypes=#[t,t]:=by
            apply Array.ext'
            rw[htys]
           refine more (dn (q3a (fun _=>4000+dst.getD 0) v)) (some (.app [m])) _ _ (by rw[w08]) ?_ ⟨by rw[qb3];unfold Mt;rw[hlk],.inr ⟨by rw[hfrV];exact hw,?_⟩⟩ h
           ·rw[vh0,vi8 hilt (by simp[ltL]) (by rw[qb3];intro _ _ _ h;cases h) (fun _ j hj _=>hnone j hj _),qb3,hSR]
            exact kb9 _ _
           ·rw[qb3,qb3,hfrV]
            exact⟨jp0 _ hb1,q2q rfl hcl ha ht hap hg1 hm⟩
          ·cases h
         ·cases h
        ·cases h
       ·cases h
      ·cases h
     ·cases h
    ·cases h
   ·cases h
  ·rename_i hlk
   split at h
   ·rename_i hg
    exact pure fr rfl hlk (by unfold q85;rw[hg]) h
   ·rename_i g want hg
    split at h
    ·cases h
    ·rename_i t ht
     have wanted:∀ {v:Bool},dn (frv.getD t .undef)=.bool v→q85 A (dns frv) o=some (v==want):=by
      intro v hv
      unfold q85
      rw[hg]
      dsimp only
      rw[show (A[g]?).bind (·.dst)=some t from ht]
      dsimp only
      rw[w66,hv]
     have nowant:dn (frv.getD t .undef)=.tuple []→q85 A (dns frv) o=some false:=by
      intro hv
      unfold q85
      rw[hg]
      dsimp only
      rw[show (A[g]?).bind (·.dst)=some t from ht]
      dsimp only
      rw[w66,hv]
     split at h
     ·rename_i hv
      have hw:=wanted (v:=true) (by rw[hv];rfl)
      split at h
      ·rename_i hwt;subst hwt;exact pure fr rfl hlk hw h
      ·rename_i hwt
       have:want=false:=by simpa using hwt
       subst this
       exact skip fr rfl hlk hw h
     ·rename_i hv
      have hw:=wanted (v:=false) (by rw[hv];rfl)
      split at h
      ·rename_i hwt;subst hwt;exact skip fr rfl hlk hw h
      ·rename_i hwt
       have:want=false:=by simpa using hwt
       subst this
       exact pure fr rfl hlk hw h
     ·rename_i hv
      exact skip fr rfl hlk (nowant (by rw[hv];rfl)) h
     ·rename_i v hv
      have hv0:fr.getD t .undef=.bool v:=by
       have:(zb8 (w2c A i hd.ws) fr).getD t .undef=.bool v:=by rw[← hfrv];exact hv
       rw[v89] at this
       exact u34 this
      have hsame:∀ {u:TV},dn u=.bool v→dns (fr.set t u)=dns fr:=fun hu=>qk4 (by rw[hv0,hu];rfl)
      have hw:=wanted (v:=v) (by rw[hv];rfl)
      simp only[j35] at h
      cases v with
      |true =>
       simp only[cond_true] at h
       split at h
       ·rename_i hwt;subst hwt;exact pure _ (hsame rfl) hlk hw h
       ·rename_i hwt
        have:want=false:=by simpa using hwt
        subst this
        exact skip _ (hsame rfl) hlk hw h
      |false =>
       simp only[cond_false] at h
       split at h
       ·rename_i hwt;subst hwt;exact skip _ (hsame rfl) hlk hw h
       ·rename_i hwt
        have:want=false:=by simpa using hwt
        subst this
        exact pure _ (hsame rfl) hlk hw h
     ·cases h
theorem kw4 (hC:q13 sc.P cf.C){hd:HDat}{A:Array Oper}{id:Nat}{fr:List TV}{s:List TOb}{k:List TV→List TOb→Option β}(h:draw3 sc cf hd A fr s k=some b):
  ∃ F S,k F S=some b∧AW cf.n0 sc.P (.region id A true) (dns fr) (dnS s) (Ex .normal F S):=by
 unfold draw3 at h
 obtain⟨h1,h2⟩:=qb4 h
 rw[Bool.and_eq_true,Bool.and_eq_true] at h1
 obtain⟨⟨hok,hws⟩,hm⟩:=h1
 split at h2
 case isFalse=>cases h2
 rename_i hL
 rw[qu6] at h2
 have hn:hd.n≤A.size:=(zq0 hok).1
 have hlen:(A.toList.take hd.n).length=hd.n:=by simp;omega
 obtain⟨val,wr,F,S,h3,h4,h5,h6,h7⟩:=vp0 (nb:=s.length) (s0:=dnS s) (fr0:=dns fr) hC hok hws (q84 s).symm (A.toList.take hd.n) 0 (fun _=>.undef) (fun _=>none) fr (s++deads hd.K)
  (fun j=>by
   rw[List.getElem?_take,hlen,Nat.zero_add]
   by_cases hj:j<hd.n
   ·rw[if_pos hj,if_pos hj];simp
   ·rw[if_neg hj,if_neg hj]) (by rw[hlen,Nat.zero_add]) rfl (by
   rw[us8,q4w]
   have:∀ m,SR (fun _=>none) (dnS s) hd.K hd.n (ltL 0) m=dnS s++List.replicate hd.K us7:=by
    have hb:∀ m,wl1 (fun _=>none) (dnS s) hd.K (ltL 0) m=dnS s++List.replicate hd.K us7:=by
     intro m
     induction m with
     |zero=>rfl
     |succ m ih=>simp only[wl1,ih]
    intro m
    induction m with
    |zero=>exact hb _
    |succ m ih=>simp only[SR,ih];simp[ltL]
   exact(this _).symm) (fun j hj=>by omega) (fun _ _=>rfl) h2
 rw[x85] at h3
 obtain⟨F2,S2,h8,h9⟩:=z90 (n0:=cf.n0) hC (A:=A) (A.toList.drop hd.n) (zb8 (w2b hd.ws) F) S k h3
 refine⟨F2,S2,h8,?_⟩
 have hHF:=HF3_of (P:=sc.P) (nb:=s.length) (n0:=cf.n0) (K:=hd.K) (s0:=dnS s) (fr0:=dns fr) hok hws h6 h7
 refine AL_draw3 (n:=hd.n) (K:=hd.K) (wr:=wr) (val:=val) hm (by rw[qc0,hL];exact hok) h7 (by rw[q84];exact hHF) ?_
 have e1:SR wr (dnS s) hd.K hd.n (fun _=>true) hd.n=dnS S:=by
  rw[h5]
  exact q4h (fun j hj=>by simp[ltL,hj]) _ (Nat.le_refl _)
 rw[e1]
 refine AL_weaken ?_ (.refl _) h9
 rw[wu0,h4]
 refine⟨by simp[w64],fun t=>?_⟩
 rw[w26,w26,← qn1 (ts:=w2b hd.ws) (t':=tsR wr (fun _=>true) hd.n)]
 ·exact zm3 _ _
 ·intro x hx
  obtain⟨j,hj1,_,hj3⟩:=yf1.1 hx
  have hm2:=(h6 j hj1 A[j] (Array.getElem?_eq_getElem (by omega))).1
  cases hW:wr j with
  |none=>rw[hW] at hj3;cases hj3
  |some W =>
   rw[hW] at hm2 hj3
   obtain⟨w,hw1,hw2⟩:=kv3 hm2
   cases W with
   |app ts =>
    cases w with
    |app t0=>simp only[mm] at hw2;subst hw2;exact kr8 hw1 x hj3
    |_=>exact hw2.elim
   |_=>cases hj3
end
mutual
theorem VR0.same {G G1:Gh}{w:World}(hs:∀ b o len,jf3 G w b o len→jf3 G1 w b o len)(hn:G1.n=G.n)(hmu:∀ i,i<G.n→G1.mu i=G.mu i):∀ (a:AV) (v:Value),VR0 G w a v→VR0 G1 w a v
 |.undef,_,_=>by simp only[VR0]
 |.int ..,_,hv=>by simp only[VR0] at hv ⊢;exact hv
 |.bool ..,_,hv=>by simp only[VR0] at hv ⊢;exact hv
 |.str ..,_,hv=>by simp only[VR0] at hv ⊢;exact hv
 |.nilp,_,hv=>by simp only[VR0] at hv ⊢;exact hv
 |.nilf,_,hv=>by simp only[VR0] at hv ⊢;exact hv
 |.ref i o,_,hv=>by
  simp only[VR0] at hv ⊢
  rw[hmu i hv.2,hn]
  exact hv
 |.arr i o,_,hv=>by
  simp only[VR0] at hv ⊢
  rw[hmu i hv.2,hn]
  exact hv
 |.eptr cs o,_,hv=>by
  simp only[VR0] at hv ⊢
  obtain⟨b,ob,vs,h1,h2,h3,h4⟩:=hv
  exact⟨b,ob,vs,h1,hs _ _ _ h2,h3,q61.same hs hn hmu cs vs h4⟩
 |.list cs n g,_,hv=>by
  simp only[VR0] at hv ⊢
  obtain⟨A,cap,h1,h2,h3,h4⟩:=hv
  refine⟨A,cap,h1,h2,h3,h4.imp id ?_⟩
  rintro⟨b,o,vs,h5,h6,h7,h8⟩
  exact⟨b,o,vs,h5,hs _ _ _ h6,h7,q61.same hs hn hmu cs vs h8⟩
 |.func fn cs,_,hv=>by
  simp only[VR0] at hv ⊢
  obtain⟨vs,h1,h2⟩:=hv
  exact⟨vs,h1,q61.same hs hn hmu cs vs h2⟩
 |.agg cs,_,hv=>by
  simp only[VR0] at hv ⊢
  obtain⟨vs,h1,h2⟩:=hv
  exact⟨vs,h1,q61.same hs hn hmu cs vs h2⟩
 |.tuple cs,_,hv=>by
  simp only[VR0] at hv ⊢
  obtain⟨vs,h1,h2⟩:=hv
  exact⟨vs,h1,q61.same hs hn hmu cs vs h2⟩
theorem q61.same {G G1:Gh}{w:World}(hs:∀ b o len,jf3 G w b o len→jf3 G1 w b o len)(hn:G1.n=G.n)(hmu:∀ i,i<G.n→G1.mu i=G.mu i):∀ (as:List AV) (vs:List Value),q61 G w as vs→q61 G1 w as vs
 |[],_,hv=>by simp only[q61] at hv ⊢;exact hv
 |a::as,_,hv=>by
  simp only[q61] at hv ⊢
  obtain⟨v,vs',h1,h2,h3⟩:=hv
  exact⟨v,vs',h1,VR0.same hs hn hmu a v h2,q61.same hs hn hmu as vs' h3⟩
end
def vh1 (s:List Ob)(i:Nat):Bool:=match s[i]? with
 |some o=>o.live
 |none=>false
theorem ke4 {s:List Ob}{i:Nat}(h:vh1 s i=true):∃ o,s[i]?=some o∧o.live=true:=by
 unfold vh1 at h
 split at h
 ·rename_i o ho;exact⟨o,ho,h⟩
 ·cases h
theorem lvOf_of {s:List Ob}{i:Nat}{o:Ob}(h:s[i]?=some o):vh1 s i=o.live:=by unfold vh1;rw[h]
def Gh.offO (G:Gh)(s:List Ob)(b:Nat):Prop:=G.obj b∧¬ ∃ i,i<G.n∧vh1 s i=true∧G.live i=true∧G.mu i=b
open Classical in
noncomputable def Gh.shade (G:Gh)(s:List Ob):Gh where
 n:=G.n
 live i:=G.live i&&vh1 s i
 mu:=G.mu
 own b:=if G.offO s b then true else G.own b
 phi b:=if G.offO s b then 0 else G.phi b
 tg:=G.tg
open Classical in
noncomputable def Gh.lit (G G1:Gh)(size:Nat):Gh where
 n:=G.n
 live:=G.live
 mu:=G.mu
 own b:=if b<size then G.own b else G1.own b
 phi:=G1.phi
 tg:=G1.tg
theorem Ok_dead {P:Program}{f:FuncId}{args:List AV}{r:AV}{s s' S S':List Ob}(h:Ok P f args s r s')(hr:r.free=true)
  (hfree:∀ (i:Nat) (o:Ob),s'[i]?=some o→o.live=true→qp7 o.cs=true) (hlen:s'.length=s.length) (hlv:∀ i,vh1 s' i=vh1 s i)
  (hSs:WkS S s) (hSl:S'.length=S.length) (hS':∀ i,S'[i]?=if vh1 s i=true then s'[i]? else S[i]?)
  (hmk:∀ (i:Nat) (o:Ob),S[i]?=some o→o.live=true→vh1 s i=false→∀ a∈o.cs,∀ t,a.mark=some t→t ∉ qc5 s)
  {M:Nat→Prop} {G:Gh} {w:World} {cargs:List Value} (hF:va4 P M G w) (hS:Sim M G S w) (hargs:q61 G w args cargs) :
  Calls P f cargs.toArray w fun e w'=>∃ v G',e=.returned v∧VR0 G' w' r v∧Sim M G' S' w'∧Ext (va5 M G s w) G w G' w':=by
 have hn:G.n=s.length:=by rw[hS.n,hSs.1]
 have hlive:∀ i,vh1 s i=true→i<G.n∧G.live i=true:=fun i hi=>by
  obtain⟨o,h1,h2⟩:=ke4 hi
  have hlt:i<S.length:=by rw[← hSs.1];exact q75 h1
  have h3:=(hSs.2 i _ o (List.getElem?_eq_getElem hlt) h1 h2).2.1
  exact⟨by rw[hS.n];exact hlt,hS.live i _ (List.getElem?_eq_getElem hlt) h3⟩
 have hobj:∀ b,G.obj b→b<w.heap.size∧G.own b=false:=by
  rintro b ⟨i,h1,h2,rfl⟩
  exact⟨hS.lt h1 h2,hS.own i h1 h2⟩
 obtain⟨G1,hG1⟩:∃ G1,G1=G.shade s:=⟨_,rfl⟩
 have g1n:G1.n=G.n:=by rw[hG1];rfl
 have g1l:∀ i,G1.live i=(G.live i&&vh1 s i):=fun c=>by rw[hG1];rfl
 have g1mu:G1.mu=G.mu:=by rw[hG1];rfl
 have g1t:G1.tg=G.tg:=by rw[hG1];rfl
 have g1o:∀ b,¬ G.offO s b→G1.own b=G.own b∧G1.phi b=G.phi b:=fun b hb=>by
  rw[hG1];simp only[Gh.shade];rw[if_neg hb,if_neg hb];exact⟨rfl,rfl⟩
 have g1a:∀ b,G.offO s b→G1.own b=true∧G1.phi b=0:=fun b hb=>by
  rw[hG1];simp only[Gh.shade];rw[if_pos hb,if_pos hb];exact⟨rfl,rfl⟩
 clear hG1
 have g1obj:∀ b,G1.obj b→G.obj b∧¬ G.offO s b:=by
  rintro b ⟨i,h1,h2,h3⟩
  rw[g1n] at h1
  rw[g1l,Bool.and_eq_true] at h2
  rw[g1mu] at h3
  exact⟨⟨i,h1,h2.1,h3⟩,fun ho=>ho.2 ⟨i,h1,h2.2,h2.1,h3⟩⟩
 have hseen:∀ b o len,jf3 G w b o len→jf3 G1 w b o len:=by
  rintro b o len ⟨k1,k2,k3⟩
  have hna:¬ G.offO s b:=fun ha=>k2 ha.1
  refine⟨k1,fun hh=>k2 (g1obj b hh).1,fun ho=>?_⟩
  rw[(g1o b hna).1] at ho
  rw[(g1o b hna).2]
  exact k3 ho
 have toG1:∀ (a:AV) (v:Value),VR0 G w a v→VR0 G1 w a v:=fun a v hv=>by
  exact VR0.same (fun b o len hs=>hseen b o len hs) (by rw[g1n]) (fun i _=>by rw[g1mu]) a v hv
 obtain⟨M1,hM1⟩:∃ M1:Nat→Prop,M1=fun b=>M b∧¬ G.obj b:=⟨_,rfl⟩
 have hSw:=hS.weaken hSs
 have own1:∀ (a:AV) (v:Value),qe9 M G w a v→qe9 M1 G1 w a v:=by
  intro a v ho
  unfold qe9 at *
  split
  ·rcases ho with ho|⟨g,cap,cur,q1,q2,q3,q4,q5,q6,q7⟩
   ·exact .inl ho
   ·have hna:¬ G.offO s g:=fun ha=>q4 ha.1
    exact .inr ⟨g,cap,cur,q1,by rw[hM1];exact⟨q2,q4⟩,by rw[(g1o g hna).1];exact q3,fun hh=>q4 (g1obj g hh).1,by rw[(g1o g hna).2];exact q5,by rw[g1t];exact q6,q7⟩
  ·trivial
 have hS1:Sim M1 G1 s w:=by
  refine⟨by rw[g1n,hn],?_,?_,?_,?_,?_⟩
  ·intro i j hi hj h1 h2 he
   rw[g1n] at hi hj
   rw[g1l,Bool.and_eq_true] at h1 h2
   rw[g1mu] at he
   exact hS.inj i j hi hj h1.1 h2.1 he
  ·intro i hi h1
   have hna:=(g1obj _ ⟨i,hi,h1,rfl⟩).2
   rw[g1n] at hi
   rw[g1l,Bool.and_eq_true] at h1
   rw[(g1o _ hna).1,g1mu]
   exact hS.own i hi h1.1
  ·intro i o hi hl
   rw[g1l,Bool.and_eq_true]
   have:=lvOf_of hi
   rw[hl] at this
   exact⟨(hlive i this).2,this⟩
  ·intro i hi h1
   rw[g1n] at hi
   rw[g1l,Bool.and_eq_true] at h1
   rw[g1mu]
   exact hS.lt hi h1.1
  ·intro i o hi hl
   obtain⟨vs,k1,k2,k3⟩:=hSw.at_ i o hi hl
   exact⟨vs,by rw[g1mu];exact k1,k2,fun k a v ha hv=>⟨toG1 a v (k3 k a v ha hv).1,own1 a v (k3 k a v ha hv).2⟩⟩
 have hsub:∀ b,va5 M1 G1 s w b→va5 M G s w b:=by
  rintro b (hb|⟨h1,t,h2,h3⟩)
  ·exact .inl hb
  ·rw[hM1] at h1
   rw[g1t] at h2
   exact .inr ⟨h1.1,t,h2,h3⟩
 have hMM:∀ b,va5 M G s w b→M b:=by
  rintro b (hb|⟨h1,_⟩)
  ·exact hF.1 b hb
  ·exact h1
 have toG1s:∀ (l:List AV) (vs:List Value),q61 G w l vs→q61 G1 w l vs:=by
  intro l
  induction l with
  |nil=>intro vs hv;simp only[q61] at hv ⊢;exact hv
  |cons a l ih =>
   intro vs hv
   simp only[q61] at hv ⊢
   obtain⟨v,vs',e1,e2,e3⟩:=hv
   exact⟨v,vs',e1,toG1 a v e2,ih vs' e3⟩
 refine(h M1 G1 w cargs hS1 (fun hg=>by
  obtain⟨k1,k2,k3,k4⟩:=hF.2 hg
  exact⟨k1,k2,fun ho=>k3 (g1obj 0 ho).1,(g1o 0 (fun ho=>k3 ho.1)).1.trans k4⟩) (toG1s args cargs hargs)).mono ?_
 rintro e w' ⟨v,G2,rfl,k1,k2,k3⟩
 obtain⟨MS,hMS⟩:∃ MS,MS=va5 M1 G1 s w:=⟨_,rfl⟩
 rw[← hMS] at k2 k3
 have hMSo:∀ b,b<w.heap.size→MS b→¬ G.obj b:=by
  intro b hb hh
  rw[hMS] at hh
  rcases hh with hh|⟨hh,_⟩
  ·omega
  ·rw[hM1] at hh;exact hh.2
 have hE:Ext MS G w (G.lit G2 w.heap.size) w':={
  size:=k3.size
  os:=k3.os
  tape:=k3.tape
  output:=k3.output
  n:=Nat.le_refl _
  live:=fun _ _ h=>h
  mu:=fun _ _=>rfl
  newobj:=fun i a1 a2=>by simp only[Gh.lit] at a2;omega
  own:=fun b hb=>by simp only[Gh.lit];rw[if_pos hb]
  phi:=fun b hb ho=>by
   have hna:¬ G.offO s b:=fun ha=>by have:=(hobj b ha.1).2;rw[this] at ho;cases ho
   have:=k3.phi b hb (by rw[(g1o b hna).1];exact ho)
   rw[(g1o b hna).2] at this
   exact this
  cell:=fun b hb hn ho=>by
   have hna:¬ G.offO s b:=fun ha=>hn ha.1
   exact k3.cell b hb (fun hh=>hn (g1obj b hh).1) (by rw[(g1o b hna).1];exact ho)
  row:=fun b hb hn ho o hlt=>by
   have hna:¬ G.offO s b:=fun ha=>hn ha.1
   exact k3.row b hb (fun hh=>hn (g1obj b hh).1) (by rw[(g1o b hna).1];exact ho) o (by rw[(g1o b hna).2];exact hlt)
  keep:=fun b hb hn ho hmb=>by
   have hna:¬ G.offO s b:=fun ha=>hn ha.1
   have:=k3.keep b hb (fun hh=>hn (g1obj b hh).1) (by rw[(g1o b hna).1];exact ho) hmb
   refine⟨this.1,?_,?_⟩
   ·simp only[Gh.lit];rw[this.2.1,(g1o b hna).2]
   ·simp only[Gh.lit];rw[this.2.2,g1t] }
 obtain⟨G',hG'⟩:∃ G',G'=G.lit G2 w.heap.size:=⟨_,rfl⟩
 have e1:G'.n=G.n:=by rw[hG'];rfl
 have e2:G'.live=G.live:=by rw[hG'];rfl
 have e3:G'.mu=G.mu:=by rw[hG'];rfl
 have e4:∀ b,b<w.heap.size→G'.own b=G.own b:=fun b hb=>by rw[hG'];simp only[Gh.lit];rw[if_pos hb]
 have e4':∀ b,¬ b<w.heap.size→G'.own b=G2.own b:=fun b hb=>by rw[hG'];simp only[Gh.lit];rw[if_neg hb]
 have e5:G'.phi=G2.phi:=by rw[hG'];rfl
 have e6:G'.tg=G2.tg:=by rw[hG'];rfl
 rw[← hG'] at hE
 clear hG'
 have g2mu:∀ i,i<G.n→G2.mu i=G.mu i:=fun i hi=>by rw[k3.mu i (by rw[g1n];exact hi),g1mu]
 have g2obj:∀ i,i<G.n→vh1 s i=true→G2.obj (G.mu i):=fun i hi hl=>by
  rw[← hlv] at hl
  obtain⟨o,h1,h2⟩:=ke4 hl
  exact⟨i,by rw[k2.n];exact q75 h1,k2.live i o h1 h2,g2mu i hi⟩
 have g1own2:∀ b,b<w.heap.size→G.own b=true→G2.own b=true:=fun b hb ho=>by
  have hna:¬ G.offO s b:=fun ha=>by have:=(hobj b ha.1).2;rw[this] at ho;cases ho
  rw[k3.own b hb,(g1o b hna).1]
  exact ho
 have back:∀ b o len,0<len→jf3 G2 w' b o len→jf3 G' w' b o len:=by
  rintro b o len hl ⟨q1,q2,q3⟩
  have hno:¬ G.obj b:=fun hb=>by
   by_cases hc:∃ i,i<G.n∧vh1 s i=true∧G.live i=true∧G.mu i=b
   ·obtain⟨i,hi,hl,_,rfl⟩:=hc
    exact q2 (g2obj i hi hl)
   ·have ha:G.offO s b:=⟨hb,hc⟩
    have hlt2:=(hobj b hb).1
    obtain⟨a1,a2⟩:=g1a b ha
    have hn1:¬ G1.obj b:=fun hh=>(g1obj b hh).2 ha
    have hmb:¬ MS b:=fun hh=>hMSo b hlt2 hh hb
    have e1:=(k3.own b hlt2).trans a1
    have e2:=(k3.keep b hlt2 hn1 a1 hmb).2.1
    have:=q3 e1
    omega
  refine⟨q1,fun⟨i,p1,p2,p3⟩=>hno ⟨i,by rw[e1] at p1;exact p1,by rw[e2] at p2;exact p2,by rw[e3] at p3;exact p3⟩,fun ho=>?_⟩
  rw[e5]
  refine q3 ?_
  by_cases hb:b<w.heap.size
  ·rw[e4 b hb] at ho
   exact g1own2 b hb ho
  ·rw[e4' b hb] at ho
   exact ho
 refine⟨v,G',rfl,VR0.move back r v hr k1,?_,hE.mono fun b _ hb=>hsub b (by rw[← hMS];exact hb)⟩
 refine⟨by rw[e1,hSl];exact hS.n,?_,?_,?_,?_,?_⟩
 ·intro i j hi hj h1 h2 h3
  rw[e1] at hi hj
  rw[e2] at h1 h2
  rw[e3] at h3
  exact hS.inj i j hi hj h1 h2 h3
 ·intro i hi h1
  rw[e1] at hi
  rw[e2] at h1
  rw[e3,e4 _ (hS.lt hi h1)]
  exact hS.own i hi h1
 ·intro i o' hi hl
  rw[e2]
  by_cases hc:vh1 s i=true
  ·exact(hlive i hc).2
  ·rw[hS' i,if_neg hc] at hi
   exact hS.live i o' hi hl
 ·intro i hi hl
  rw[e1] at hi
  rw[e2] at hl
  rw[e3]
  exact Nat.lt_of_lt_of_le (hS.lt hi hl) hE.size
 ·intro i o' hi hl
  by_cases hc:vh1 s i=true
  ·rw[hS' i,if_pos hc] at hi
   have hin:=(hlive i hc).1
   obtain⟨vs,q1,q2,q3⟩:=k2.at_ i o' hi hl
   refine⟨vs,by rw[e3,← g2mu i hin];exact q1,q2,fun k a v ha hv=>?_⟩
   have q4:=q3 k a v ha hv
   have hfa:a.free=true:=by
    have h0:=hfree i o' hi hl
    have all:∀ (l:List AV),qp7 l=true→∀ x∈l,x.free=true:=by
     intro l
     induction l with
     |nil=>intro _ x hx;cases hx
     |cons y l ih =>
      intro hh x hx
      simp only[qp7,Bool.and_eq_true] at hh
      rcases List.mem_cons.1 hx with rfl|hx
      ·exact hh.1
      ·exact ih hh.2 x hx
    exact all _ h0 a (List.mem_of_getElem? ha)
   refine⟨VR0.move back a v hfa q4.1,?_⟩
   have ho:=q4.2
   unfold qe9 at *
   split
   ·rcases ho with ho|⟨g,cap,cur,p1,p2,p3,p4,p5,p6,p7⟩
    ·exact .inl ho
    ·have hown1:g<w.heap.size→G.own g=true:=fun hg=>by
      have hng:¬ G.obj g:=hMSo g hg p2
      have hna:¬ G.offO s g:=fun ha=>hng ha.1
      rw[k3.own g hg,(g1o g hna).1] at p3
      exact p3
     refine .inr ⟨g,cap,cur,p1,hMM g (hsub g (by rw[← hMS];exact p2)),?_,?_,by rw[e5];exact p5,by rw[e6];exact p6,p7⟩
     ·by_cases hg:g<w.heap.size
      ·rw[e4 g hg];exact hown1 hg
      ·rw[e4' g hg];exact p3
     ·rintro⟨j,b1,b2,b3⟩
      rw[e1] at b1
      rw[e2] at b2
      rw[e3] at b3
      have hg:g<w.heap.size:=by rw[← b3];exact hS.lt b1 b2
      exact hMSo g hg p2 ⟨j,b1,b2,b3⟩
   ·trivial
  ·rw[hS' i,if_neg hc] at hi
   have hc:vh1 s i=false:=by simpa using hc
   obtain⟨vs,q1,q2,q3⟩:=hS.at_ i o' hi hl
   have hin:i<G.n:=by rw[hS.n];exact q75 hi
   have hlv2:G.live i=true:=hS.live i o' hi hl
   have hob:G.obj (G.mu i):=⟨i,hin,hlv2,rfl⟩
   have hsz:G.mu i<w.heap.size:=hS.lt hin hlv2
   have ha:G.offO s (G.mu i):=⟨hob,fun⟨j,c1,c2,c3,c4⟩=>by
    have:=hS.inj j i c1 hin c3 hlv2 c4
    subst this
    rw[hc] at c2
    cases c2⟩
   refine⟨vs,?_,q2,fun k a v hk hv=>(q3 k a v hk hv).keep hE ?_⟩
   ·rw[e3,(k3.keep _ hsz (fun hh=>(g1obj _ hh).2 ha) (g1a _ ha).1 (fun hh=>hMSo _ hsz hh hob)).1]
    exact q1
   ·intro g t hmk2 htg hg hng hog _ hh
    rw[hMS] at hh
    rcases hh with hh|⟨_,t',h1,h2⟩
    ·omega
    ·rw[g1t,htg] at h1
     subst h1
     exact hmk i o' hi hl hc a (List.mem_of_getElem? hk) t hmk2 h2
theorem kv2 {P:Program}{A:Array Oper}{o:Oper}{fr:List AV}{s s' S S':List Ob}{ts:List Nat}{r:AV}{c:Call}{x:Operand}{f:FuncId}{fcs:List AV}(ho:o.op=.call c)(hc:c.callee=.value x)(hx:q42 fr x=.func (.func f) fcs)
  (hbody:z06 P f=true) (hts:∀ t∈qc5 s,t∈ts)
  (hok:Ok P f ((c.args.toList.map fun y=>(q42 fr y).soft)++fcs) s r s') (hm:r.mark=none) (hr:r.free=true)
  (hfree:∀ (i:Nat) (o:Ob),s'[i]?=some o→o.live=true→qp7 o.cs=true) (hlen:s'.length=s.length) (hlv:∀ i,vh1 s' i=vh1 s i)
  (hSs:WkS S s) (hSl:S'.length=S.length) (hS':∀ i,S'[i]?=if vh1 s i=true then s'[i]? else S[i]?)
  (hmk:∀ (i:Nat) (o:Ob),S[i]?=some o→o.live=true→vh1 s i=false→∀ a∈o.cs,∀ t,a.mark=some t→t ∉ qc5 s):q7k P A o fr S ts r S':=by
 intro M G w a hF hS hf K Q hK
 have hxo:∀ y∈o.op.operands,q42 (qb8 (qb6 A o) fr) y=q42 fr y:=fun y hy=>qk2 hy
 have hx':q42 (qb8 (qb6 A o) fr) x=.func (.func f) fcs:=by
  rw[hxo x (by simp[ho,Op.operands,Call.operands,hc])]
  exact hx
 have hargs':(c.args.toList.map fun y=>(q42 (qb8 (qb6 A o) fr) y).soft)=c.args.toList.map fun y=>(q42 fr y).soft :=
  List.map_congr_left fun y hy=>by rw[hxo y (by simp[ho,Op.operands,Call.operands];right;simpa using hy)]
 rw[← hargs'] at hok
 have hv:=(hf.eval x).1
 rw[hx'] at hv
 simp only[VR0] at hv
 obtain⟨cvs,hv,hcv⟩:=hv
 have hargs:∀ l:List Operand,q61 G w (l.map fun y=>(q42 (qb8 (qb6 A o) fr) y).soft) (l.map a.eval):=by
  intro l
  induction l with
  |nil=>simp only[List.map_nil,q61]
  |cons y l ih =>
   simp only[List.map_cons,q61]
   exact⟨_,_,rfl,(hf.eval y).1.soft,ih⟩
 have happ:∀ (l m:List AV) (x y:List Value),q61 G w l x→q61 G w m y→q61 G w (l++m) (x++y):=by
  intro l
  induction l with
  |nil=>intro m x y h1 h2;simp only[q61] at h1;subst h1;exact h2
  |cons a l ih =>
   intro m x y h1 h2
   simp only[q61] at h1
   obtain⟨v,vs',rfl,h3,h4⟩:=h1
   simp only[List.cons_append,q61]
   exact⟨v,_,rfl,h3,ih m vs' y h4 h2⟩
 have hcall:=Ok_dead hok hr hfree hlen hlv hSs hSl hS' hmk hF hS (happ _ _ _ _ (hargs c.args.toList) hcv)
 have hrun:(execOp a.eval o).run P w=.ok (.enter f ((c.args.toList.map a.eval)++cvs).toArray) w:=by
  have e1:c.args.map a.eval++cvs.toArray=((c.args.toList.map a.eval)++cvs).toArray:=by
   apply Array.ext'
   simp
  simp[execOp,ho,resolve,hc,hv,Deferred.ofValue,invoke,xh8 hbody,e1]
 unfold Oper.wp
 rw[hrun,Oper.upon_enter]
 refine hcall.mono ?_
 rintro e w' ⟨v,G',rfl,h1,h2,h3⟩
 refine hK v G' w' (va5 M G s w) (fun b hb=>?_) h3 h2 ⟨h1,qe9.of_plain hm⟩
 rcases hb with h|⟨h,t,ht,hmem⟩
 ·exact .inl h
 ·exact .inr ⟨h,by rw[ht];exact hts t hmem⟩
theorem zl9 {P:Program}{A:Array Oper}{o:Oper}{fr:List AV}{s sv:List Ob}{ts:List Nat}{v:AV}(h:yu8 P A o fr sv v)(k:WkS s sv):q7k P A o fr s ts v s :=
 fun M G w a hF hS hf K Q hK=>h M G w a s hF hS (hS.weaken k) hf K Q fun cv G' w' h1 h2 h3=>hK cv G' w' (fun _=>False) (fun _ h=>h.elim) h1 h2 h3
def u73 (x:Nat):List Nat→Bool
 |[]=>false
 |y::l=>Nat.beq x y||u73 x l
theorem uw1 {x:Nat}:∀ {l:List Nat},u73 x l=true↔x∈l
 |[]=>by simp[u73]
 |y::l=>by
  simp only[u73,Bool.or_eq_true,List.mem_cons,uw1 (l:=l)]
  exact or_congr ⟨Nat.eq_of_beq_eq_true,fun h=>by subst h;exact Nat.beq_refl x⟩ Iff.rfl
def xd4 (b:Bool)(π:List Nat):Nat→List TOb→List TOb
 |_,[]=>[]
 |i,o::s=>match u73 i π==b with
  |true=>.cells [] 0 false::xd4 b π (i+1) s
  |false=>o::xd4 b π (i+1) s
theorem z72 (b:Bool)(π:List Nat):∀ (i:Nat) (s:List TOb),(xd4 b π i s).length=s.length
 |i,[]=>rfl
 |i,o::s=>by simp only[xd4];split<;>simp[z72 b π (i+1) s]
theorem ya0 (b:Bool)(π:List Nat):∀ (i:Nat) (s:List TOb) (j:Nat),(xd4 b π i s)[j]?=(s[j]?).map fun o=>if (u73 (i+j) π==b)=true then .cells [] 0 false else o
 |i,[],j=>by simp[xd4]
 |i,o::s,0=>by
  simp only[xd4,List.getElem?_cons_zero,Option.map_some,Nat.add_zero]
  split
  ·rename_i h;rw[if_pos h];rfl
  ·rename_i h;rw[if_neg (by rw[h];simp)];rfl
 |i,o::s,j+1=>by
  have ih:=ya0 b π (i+1) s j
  rw[show i+1+j=i+(j+1) by omega] at ih
  simp only[xd4,List.getElem?_cons_succ]
  split<;>simpa using ih
def ke3 :TOb→Bool
 |.cells _ _ l=>l
 |.tarr _ _ _ l=>l
theorem xa0 (o:TOb):(dnO o).live=ke3 o:=by cases o<;>rfl
def freeO :TOb→Bool
 |.cells cs _ _=>zl6 cs
 |.tarr ..=>true
theorem q8j {o:TOb}(h:freeO o=true):qp7 (dnO o).cs=true:=by
 cases o with
 |cells cs t l=>exact qy3 cs h
 |tarr ty xs t l=>exact wn6 xs
def vp7 {β:Type}(π:List Nat):Nat→List TOb→List TOb→(List TOb→Option β)→Option β
 |_,[],[],k=>k []
 |i,o::s,o'::s',k=>match u73 i π with
  |true=>cond (ke3 o&&ke3 o'&&freeO o') (vp7 π (i+1) s s' fun l=>k (o'::l)) none
  |false=>cond (!ke3 o') (vp7 π (i+1) s s' fun l=>k (o::l)) none
 |_,_,_,_=>none
theorem yy9 {β:Type}{π:List Nat}{b:β}:∀ (s s':List TOb) (i:Nat) (k:List TOb→Option β),vp7 π i s s' k=some b →
  ∃ l,k l=some b∧s'.length=s.length∧l.length=s.length∧(∀ j,u73 (i+j) π=true→l[j]?=s'[j]?)∧(∀ j,u73 (i+j) π=false→l[j]?=s[j]?) ∧
   (∀ (j:Nat) (o':TOb),u73 (i+j) π=true→s'[j]?=some o'→ke3 o'=true∧freeO o'=true)∧(∀ (j:Nat) (o:TOb),u73 (i+j) π=true→s[j]?=some o→ke3 o=true)∧(∀ (j:Nat) (o':TOb),u73 (i+j) π=false→s'[j]?=some o'→ke3 o'=false)
 |[],[],i,k,h=>⟨[],h,rfl,rfl,fun _ _=>rfl,fun _ _=>rfl,by simp,by simp,by simp⟩
 |[],_::_,i,k,h=>by simp[vp7] at h
 |_::_,[],i,k,h=>by simp[vp7] at h
 |o::s,o'::s',i,k,h=>by
  simp only[vp7] at h
  split at h
  ·rename_i hm
   obtain⟨hc,h⟩:=qb4 h
   simp only[Bool.and_eq_true] at hc
   obtain⟨l,h1,h2,h3,h4,h5,h6,h7,h8⟩:=yy9 s s' (i+1) _ h
   refine⟨o'::l,h1,by simp[h2],by simp[h3],?_,?_,?_,?_,?_⟩
   ·intro j hj;cases j with
    |zero=>rfl
    |succ j=>exact h4 j (by rw[show i+1+j=i+(j+1) by omega];exact hj)
   ·intro j hj;cases j with
    |zero=>rw[Nat.add_zero,hm] at hj;cases hj
    |succ j=>exact h5 j (by rw[show i+1+j=i+(j+1) by omega];exact hj)
   ·intro j q hj hq;cases j with
    |zero=>simp at hq;subst hq;exact⟨hc.1.2,hc.2⟩
    |succ j=>exact h6 j q (by rw[show i+1+j=i+(j+1) by omega];exact hj) (by simpa using hq)
   ·intro j q hj hq;cases j with
    |zero=>simp at hq;subst hq;exact hc.1.1
    |succ j=>exact h7 j q (by rw[show i+1+j=i+(j+1) by omega];exact hj) (by simpa using hq)
   ·intro j q hj hq;cases j with
    |zero=>rw[Nat.add_zero,hm] at hj;cases hj
    |succ j=>exact h8 j q (by rw[show i+1+j=i+(j+1) by omega];exact hj) (by simpa using hq)
  ·rename_i hm
   obtain⟨hc,h⟩:=qb4 h
   simp only[Bool.not_eq_true'] at hc
   obtain⟨l,h1,h2,h3,h4,h5,h6,h7,h8⟩:=yy9 s s' (i+1) _ h
   refine⟨o::l,h1,by simp[h2],by simp[h3],?_,?_,?_,?_,?_⟩
   ·intro j hj;cases j with
    |zero=>rw[Nat.add_zero,hm] at hj;cases hj
    |succ j=>exact h4 j (by rw[show i+1+j=i+(j+1) by omega];exact hj)
   ·intro j hj;cases j with
    |zero=>rfl
    |succ j=>exact h5 j (by rw[show i+1+j=i+(j+1) by omega];exact hj)
   ·intro j q hj hq;cases j with
    |zero=>rw[Nat.add_zero,hm] at hj;cases hj
    |succ j=>exact h6 j q (by rw[show i+1+j=i+(j+1) by omega];exact hj) (by simpa using hq)
   ·intro j q hj hq;cases j with
    |zero=>rw[Nat.add_zero,hm] at hj;cases hj
    |succ j=>exact h7 j q (by rw[show i+1+j=i+(j+1) by omega];exact hj) (by simpa using hq)
   ·intro j q hj hq;cases j with
    |zero=>simp at hq;subst hq;exact hc
    |succ j=>exact h8 j q (by rw[show i+1+j=i+(j+1) by omega];exact hj) (by simpa using hq)
def othX (π:List Nat)(Ts:List Nat):Nat→List TOb→Bool
 |_,[]=>true
 |i,.cells cs _ live::s=>(u73 i π||!live||cs.all fun v=>match wd3 v with|none=>true|some t=>!u73 t Ts)&&othX π Ts (i+1) s
 |i,.tarr ..::s=>othX π Ts (i+1) s
theorem vr4 {π Ts:List Nat}:∀ (s:List TOb) (i:Nat),othX π Ts i s=true→∀ (j:Nat) (o:Ob),(dnS s)[j]?=some o→u73 (i+j) π=false→o.live=true→∀ (a:AV),a∈o.cs→∀ (t:Nat),a.mark=some t→t ∉ Ts
 |[],i,h,j,o,hj=>by simp[dnS] at hj
 |.cells cs tt live::s,i,h,j,o,hj=>by
  intro hp hl a ha t hm
  simp only[othX,Bool.and_eq_true,Bool.or_eq_true] at h
  cases j with
  |zero =>
   simp only[dnS,List.map_cons,List.getElem?_cons_zero,Option.some.injEq] at hj
   subst hj
   simp only[dnO] at hl ha
   rcases h.1 with (h1|h1)|h1
   ·rw[Nat.add_zero,h1] at hp;cases hp
   ·rw[hl] at h1;cases h1
   ·rw[qm9] at ha
    obtain⟨v,hv,rfl⟩:=List.mem_map.1 ha
    rw[za3] at hm
    have:=List.all_eq_true.1 h1 v hv
    rw[hm] at this
    intro hT
    simp only[Bool.not_eq_true'] at this
    rw[uw1.2 hT] at this
    cases this
  |succ j =>
   exact vr4 s (i+1) h.2 j o (by simpa only[dnS,List.map_cons,List.getElem?_cons_succ] using hj) (by rw[show i+1+j=i+(j+1) by omega];exact hp) hl a ha t hm
 |.tarr ty xs tt live::s,i,h,j,o,hj=>by
  intro hp hl a ha t hm
  simp only[othX] at h
  cases j with
  |zero =>
   simp only[dnS,List.map_cons,List.getElem?_cons_zero,Option.some.injEq] at hj
   subst hj
   rw[wn7 xs a ha] at hm
   cases hm
  |succ j =>
   exact vr4 s (i+1) h j o (by simpa only[dnS,List.map_cons,List.getElem?_cons_succ] using hj) (by rw[show i+1+j=i+(j+1) by omega];exact hp) hl a ha t hm
section
variable {β:Type} (sc:Sc) (cf:Cfg)
def putC (ts:List Nat)(fr:List TV)(d:Option Nat)(v:TV)(k:List TV→Option β):Option β:=match wd3 v with
 |none=>jf0 fr d v k
 |some m=>cond (!u73 m ts) (jf0 fr d v k) none
def opC (ts:List Nat)(A:Array Oper)(sv:List TOb)(o:Oper)(fr:List TV)(k:List TV→Option β):Option β:=match o.guard with
 |none=>zk9 sc cf o.op fr sv fr fun fr v=>putC ts fr o.dst v k
 |some (g,want)=>match vo9 A g with
  |none=>none
  |some t=>match fr.getD t .undef with
   |.tt=>if want=true then zk9 sc cf o.op fr sv fr fun fr v=>putC ts fr o.dst v k else jf0 fr o.dst (.tup []) k
   |.ff=>if want=true then jf0 fr o.dst (.tup []) k else zk9 sc cf o.op fr sv fr fun fr v=>putC ts fr o.dst v k
   |.tup []=>jf0 fr o.dst (.tup []) k
   |.bool b=>cond b
    (uo5 fr t .tt fun fr=>if want=true then zk9 sc cf o.op fr sv fr fun fr v=>putC ts fr o.dst v k else jf0 fr o.dst (.tup []) k)
    (uo5 fr t .ff fun fr=>if want=true then jf0 fr o.dst (.tup []) k else zk9 sc cf o.op fr sv fr fun fr v=>putC ts fr o.dst v k)
   |_=>none
def ug7 (ts:List Nat)(A:Array Oper)(e:Nat)(sm s1:List TOb):List Oper→Nat→List TV→(List TV→Option β)→Option β
 |[],_,fr,k=>k fr
 |o::l,i,fr,k=>match zw5 A A.size i e with
  |true=>opC sc cf ts A s1 o fr fun fr=>ug7 ts A e sm s1 l (i+1) fr k
  |false=>opC sc cf ts A sm o fr fun fr=>ug7 ts A e sm s1 l (i+1) fr k
def vp1 (ts:List Nat)(A:Array Oper)(e:Nat)(π:List Nat)(s sm sd:List TOb):List Oper→Nat→List TV→(List TV→List TOb→Option β)→Option β
 |[],_,fr,k=>none
 |o::l,i,fr,k=>match Nat.beq i e with
  |true=>match o.guard,o.op with
   |none,.call c=>match c.callee with
    |.value x=>match q87 fr x with
     |.func (.func f) fcs=>zy6 ((c.args.toList.map fun y=>u35 (q87 fr y))++fcs) fun args=>cf.C f β args sd fun r s'=>match jy8 r with
      |true=>vp7 π 0 s s' fun s1=>putC ts fr o.dst (qq3 r) fun fr=>ug7 sc cf ts A e sm s1 l (i+1) fr fun fr=>k fr s1
      |false=>none
     |_=>none
    |_=>none
   |_,_=>none
  |false=>match zw5 A A.size e i with
   |true=>opC sc cf ts A s o fr fun fr=>vp1 ts A e π s sm sd l (i+1) fr k
   |false=>opC sc cf ts A sm o fr fun fr=>vp1 ts A e π s sm sd l (i+1) fr k
def drawC (hd:HDat)(e:Nat)(π:List Nat)(A:Array Oper)(fr:List TV)(s:List TOb)(k:List TV→List TOb→Option β):Option β :=
 cond (v25 A hd.n hd.L&&sc.P.follows .mixedOrders&&Nat.blt e hd.n)
  (if fr.length=hd.L then
   z70 (xd4 true π 0 s) fun sm=>z70 (xd4 false π 0 s) fun sd=>match othX π (yf0 sd) 0 s with
    |true=>x84 (yf0 sd) fr fun fr=>vp1 sc cf (yf0 sd) A e π s sm sd (A.toList.take hd.n) 0 fr fun fr s1=>z89 sc cf A (A.toList.drop hd.n) fr s1 k
    |false=>none
  else none) none
end
theorem ku9 {P:Program}{A:Array Oper}{e:Option Nat}{s0 s1:List Ob}{ts:List Nat}{K K':List AV→Prop}(hk:∀ fr,K fr→K' fr):∀ (l:List Oper) (i:Nat) (fr:List AV),HD P A e s0 s1 ts l i fr K→HD P A e s0 s1 ts l i fr K'
 |[],i,fr,h=>hk fr h
 |o::l,i,fr,h=>by
  unfold HD at h ⊢
  split at h
  ·exact⟨h.1,ku9 hk l _ _ h.2⟩
  ·exact h
  ·obtain⟨v,h1,h2,h3⟩:=h
   exact⟨v,h1,h2,ku9 hk l _ _ h3⟩
section
variable {β:Type} {sc:Sc} {cf:Cfg} {b:β}
theorem kh3 {ts:List Nat}{fr:List TV}{d:Option Nat}{v:TV}{k:List TV→Option β}(h:putC ts fr d v k=some b):(∀ t∈ts,(dn v).mark≠some t)∧k (tPut fr d v)=some b:=by
 unfold putC at h
 split at h
 ·rename_i hm
  rw[wd2] at h
  exact⟨fun t _=>by rw[za3,hm];simp,h⟩
 ·rename_i m hm
  obtain⟨hc,h⟩:=qb4 h
  rw[wd2] at h
  refine⟨fun t ht e=>?_,h⟩
  rw[za3,hm] at e
  cases e
  simp only[Bool.not_eq_true'] at hc
  rw[uw1.2 ht] at hc
  cases hc
theorem kh1 (hC:q13 sc.P cf.C){ts:List Nat}{A:Array Oper}{sv:List TOb}{o:Oper}{fr:List TV}{k:List TV→Option β}(h:opC sc cf ts A sv o fr k=some b):
  ∃ F,k F=some b∧((q85 A (dns fr) o=some false∧dns F=vg3 (dns fr) o.dst (.tuple [])) ∨
   (q85 A (dns fr) o=some true∧∃ v,yu8 sc.P A o (dns fr) (dnS sv) v∧(∀ t∈ts,v.mark≠some t)∧dns F=vg3 (dns fr) o.dst v)):=by
 have yes:∀ {fr2:List TV},dns fr2=dns fr→q85 A (dns fr) o=some true→(zk9 sc cf o.op fr2 sv fr2 fun fr v=>putC ts fr o.dst v k)=some b→∃ F,k F=some b∧((q85 A (dns fr) o=some false∧dns F=vg3 (dns fr) o.dst (.tuple [])) ∨
   (q85 A (dns fr) o=some true∧∃ v,yu8 sc.P A o (dns fr) (dnS sv) v∧(∀ t∈ts,v.mark≠some t)∧dns F=vg3 (dns fr) o.dst v)):=by
  intro fr2 he hw h
  obtain⟨fr',v,h1,h2,h3⟩:=v35 (A:=A) hC (o:=o) (fun ct t ht=>by rw[ht];rfl) h
  obtain⟨h4,h5⟩:=kh3 h1
  rw[he] at h3
  exact⟨_,h5,.inr ⟨hw,dn v,h3,h4,by rw[w08,h2,he]⟩⟩
 have no:∀ {fr2:List TV},dns fr2=dns fr→q85 A (dns fr) o=some false→jf0 fr2 o.dst (.tup []) k=some b→∃ F,k F=some b∧((q85 A (dns fr) o=some false∧dns F=vg3 (dns fr) o.dst (.tuple [])) ∨
   (q85 A (dns fr) o=some true∧∃ v,yu8 sc.P A o (dns fr) (dnS sv) v∧(∀ t∈ts,v.mark≠some t)∧dns F=vg3 (dns fr) o.dst v)):=by
  intro fr2 he hw h
  rw[wd2] at h
  exact⟨_,h,.inl ⟨hw,by rw[w08,he];rfl⟩⟩
 unfold opC at h
 split at h
 ·rename_i hg
  exact yes rfl (by unfold q85;rw[hg]) h
 ·rename_i g want hg
  split at h
  ·cases h
  ·rename_i t ht
   have ht':(A[g]?).bind (·.dst)=some t:=ht
   have wanted:∀ {v:Bool},dn (fr.getD t .undef)=.bool v→q85 A (dns fr) o=some (v==want):=by
    intro v hv
    unfold q85
    rw[hg]
    simp only[ht',w66,hv]
   split at h
   ·rename_i hv
    have hw:=wanted (v:=true) (by rw[hv];rfl)
    split at h
    ·rename_i hwt;subst hwt;exact yes rfl hw h
    ·rename_i hwt
     have:want=false:=by simpa using hwt
     subst this
     exact no rfl hw h
   ·rename_i hv
    have hw:=wanted (v:=false) (by rw[hv];rfl)
    split at h
    ·rename_i hwt;subst hwt;exact no rfl hw h
    ·rename_i hwt
     have:want=false:=by simpa using hwt
     subst this
     exact yes rfl hw h
   ·rename_i hv
    refine no rfl ?_ h
    unfold q85
    rw[hg]
    simp only[ht',w66,hv,dn,dns]
   ·rename_i bb hv
    have hw:=wanted (v:=bb) (by rw[hv];rfl)
    cases bb with
    |true =>
     have h9:(uo5 fr t .tt fun fr=>if want=true then zk9 sc cf o.op fr sv fr fun fr v=>putC ts fr o.dst v k else jf0 fr o.dst (.tup []) k)=some b:=h
     rw[j35] at h9
     clear h
     have he:dns (fr.set t .tt)=dns fr:=qk4 (by rw[hv];rfl)
     split at h9
     ·rename_i hwt;subst hwt;exact yes he hw h9
     ·rename_i hwt
      have:want=false:=by simpa using hwt
      subst this
      exact no he hw h9
    |false =>
     have h9:(uo5 fr t .ff fun fr=>if want=true then jf0 fr o.dst (.tup []) k else zk9 sc cf o.op fr sv fr fun fr v=>putC ts fr o.dst v k)=some b:=h
     rw[j35] at h9
     clear h
     have he:dns (fr.set t .ff)=dns fr:=qk4 (by rw[hv];rfl)
     split at h9
     ·rename_i hwt;subst hwt;exact no he hw h9
     ·rename_i hwt
      have:want=false:=by simpa using hwt
      subst this
      exact yes he hw h9
   ·cases h
variable {A:Array Oper} {e:Nat} {ts:List Nat}
theorem v39 (hC:q13 sc.P cf.C)(hlt:∀ (f j i:Nat),zw5 A f j i=true→i<j){s0:List Ob}{s1 sm:List TOb}(h0:WkS s0 (dnS sm))(h1:WkS (dnS s1) (dnS sm)):∀ (l:List Oper) (i:Nat) (fr:List TV) (k:List TV→Option β),e<i→ug7 sc cf ts A e sm s1 l i fr k=some b →
  ∃ F,k F=some b∧HD sc.P A (some e) s0 (dnS s1) ts l i (dns fr) (fun fr'=>fr'=dns F)
 |[],i,fr,k,hi,h=>⟨fr,h,rfl⟩
 |o::l,i,fr,k,hi,h=>by
  have fin:∀ {sv:List TOb},(zw5 A A.size i e=false→WkS s0 (dnS sv))→WkS (dnS s1) (dnS sv)→(opC sc cf ts A sv o fr fun fr=>ug7 sc cf ts A e sm s1 l (i+1) fr k)=some b→∃ F,k F=some b∧HD sc.P A (some e) s0 (dnS s1) ts (o::l) i (dns fr) (fun fr'=>fr'=dns F):=by
   intro sv w0 w1 h
   obtain⟨F1,h2,h3⟩:=kh1 hC h
   obtain⟨F,h4,h5⟩:=v39 hC hlt h0 h1 l (i+1) F1 k (by omega) h2
   refine⟨F,h4,?_⟩
   unfold HD
   rcases h3 with⟨h6,h7⟩|⟨h6,v,h7,h8,h9⟩
   ·rw[h6]
    exact⟨fun hh=>by cases hh;omega,by rw[← h7];exact h5⟩
   ·rw[h6]
    refine⟨v,?_,h8,by rw[← h9];exact h5⟩
    unfold q7j
    dsimp only
    rw[if_neg (by omega)]
    exact⟨fun hh=>zl9 h7 (w0 hh),fun _=>zl9 h7 w1⟩
  simp only[ug7] at h
  split at h
  ·rename_i ha
   exact fin (fun hh=>by rw[ha] at hh;cases hh) (.refl _) h
  ·exact fin (fun _=>h0) h1 h
theorem v38 (hC:q13 sc.P cf.C)(hlt:∀ (f j i:Nat),zw5 A f j i=true→i<j){π:List Nat}{s sm sd:List TOb}(hsm:sm=xd4 true π 0 s)(hsd:sd=xd4 false π 0 s)(hts:ts=yf0 sd)(hot:othX π ts 0 s=true):∀ (l:List Oper) (i:Nat) (fr:List TV) (k:List TV→List TOb→Option β),i≤e→vp1 sc cf ts A e π s sm sd l i fr k=some b →
  ∃ F s1,k F s1=some b∧WkS (dnS s1) (dnS sm)∧HD sc.P A (some e) (dnS s) (dnS s1) ts l i (dns fr) (fun fr'=>fr'=dns F)
 |[],i,fr,k,hi,h=>by simp[vp1] at h
 |o::l,i,fr,k,hi,h=>by
  have w0:WkS (dnS s) (dnS sm):=by
   rw[hsm]
   refine⟨by simp only[q84,z72],fun j a a' ha ha'=>?_⟩
   rw[qk0] at ha ha'
   rw[ya0,Nat.zero_add] at ha'
   obtain⟨x,hx,rfl⟩:=q54 ha
   rw[hx] at ha'
   simp only[Option.map_some,Option.some.injEq] at ha'
   subst ha'
   split
   ·intro hl;cases hl
   ·exact .refl _
  simp only[vp1] at h
  split at h
  ·rename_i hie
   have hie:=Nat.eq_of_beq_eq_true hie
   subst hie
   split at h
   ·rename_i c hg hop
    split at h
    ·rename_i x hc
     split at h
     ·rename_i f fcs hf
      rw[w55] at h
      obtain⟨hen,r,s',hok,hk⟩:=hC f β _ sd _ b h
      split at hk
      ·rename_i hfr
       obtain⟨s1,h1,h2,h3,h4,h5,h6,h7,h8⟩:=yy9 s s' 0 _ hk
       obtain⟨hmk,h9⟩:=kh3 h1
       have hf':q42 (dns fr) x=.func (.func f) (dns fcs):=by rw[← q64,hf];rfl
       have hargs:dns ((c.args.toList.map fun y=>u35 (q87 fr y))++fcs)=(c.args.toList.map fun y=>(q42 (dns fr) y).soft)++dns fcs:=by rw[y13,← vj4]
       rw[hargs] at hok
       have w1:WkS (dnS s1) (dnS sm):=by
        rw[hsm]
        refine⟨by simp only[q84,z72,h3],fun j a a' ha ha'=>?_⟩
        rw[qk0] at ha ha'
        rw[ya0,Nat.zero_add] at ha'
        obtain⟨q,hq,rfl⟩:=q54 ha'
        obtain⟨q0,hq0,rfl⟩:=q54 hq
        cases hmj:u73 j π with
        |true=>intro hl;cases hl
        |false =>
         have:=h5 j (by rw[Nat.zero_add];exact hmj)
         rw[this,hq0] at ha
         simp only[Option.map_some,Option.some.injEq] at ha
         subst ha
         exact .refl _
       obtain⟨F,h10,h11⟩:=v39 hC hlt w0 w1 l (i+1) _ _ (by omega) h9
       refine⟨F,s1,h10,w1,?_⟩
       unfold HD
       have hw:q85 A (dns fr) o=some true:=by unfold q85;rw[hg]
       rw[hw]
       refine⟨dn (qq3 r),?_,hmk,by rw[← w08];exact h11⟩
       unfold q7j
       dsimp only
       rw[if_pos rfl,qo9]
       have lvd:∀ j,vh1 (dnS sd) j=(u73 j π&&(match s[j]? with|some o=>ke3 o|none=>false)):=by
        intro j
        unfold vh1
        rw[hsd,qk0,ya0,Nat.zero_add]
        cases hj:s[j]? with
        |none=>simp
        |some q =>
         cases hmj:u73 j π with
         |true=>simp[xa0]
         |false=>simp[dnO]
       refine kv2 hop hc hf' hen (by rw[vk5,hts];exact fun t h=>h) (hok.weaken (AV.plain_wk _)) (AV.mark_plain _) (xp2 (zp1 r hfr)) ?_ (by simp only[q84,h2,hsd,z72]) ?_ ?_ (by simp only[q84,h3]) ?_ ?_
       ·intro j q hj hl
        rw[qk0] at hj
        obtain⟨q0,hq0,rfl⟩:=q54 hj
        rw[xa0] at hl
        cases hmj:u73 j π with
        |true=>exact q8j (h6 j q0 (by rw[Nat.zero_add];exact hmj) hq0).2
        |false =>
         have:=h8 j q0 (by rw[Nat.zero_add];exact hmj) hq0
         rw[this] at hl
         cases hl
       ·intro j
        rw[lvd]
        unfold vh1
        rw[qk0]
        cases hj':s'[j]? with
        |none =>
         have:s[j]?=none:=by rw[List.getElem?_eq_none_iff] at hj' ⊢;omega
         simp[this]
        |some q' =>
         simp only[Option.map_some,xa0]
         have hlt2:j<s.length:=by have:=q75 hj';omega
         cases hmj:u73 j π with
         |true =>
          have e1:=(h6 j q' (by rw[Nat.zero_add];exact hmj) hj').1
          have e2:=h7 j _ (by rw[Nat.zero_add];exact hmj) (List.getElem?_eq_getElem hlt2)
          rw[List.getElem?_eq_getElem hlt2]
          simp[e1,e2]
         |false =>
          have e1:=h8 j q' (by rw[Nat.zero_add];exact hmj) hj'
          simp[e1]
       ·rw[hsd]
        refine⟨by simp only[q84,z72],fun j a a' ha ha'=>?_⟩
        rw[qk0] at ha ha'
        rw[ya0,Nat.zero_add] at ha'
        obtain⟨q,hq,rfl⟩:=q54 ha
        rw[hq] at ha'
        simp only[Option.map_some,Option.some.injEq] at ha'
        subst ha'
        split
        ·intro hl;cases hl
        ·exact .refl _
       ·intro j
        rw[lvd,qk0,qk0,qk0]
        cases hmj:u73 j π with
        |true =>
         rw[h4 j (by rw[Nat.zero_add];exact hmj)]
         cases hj:s[j]? with
         |none =>
          have:s'[j]?=none:=by rw[List.getElem?_eq_none_iff] at hj ⊢;omega
          simp[this]
         |some q =>
          have e2:=h7 j q (by rw[Nat.zero_add];exact hmj) hj
          simp[e2]
        |false =>
         rw[h5 j (by rw[Nat.zero_add];exact hmj)]
         simp
       ·intro j q hj hl hlv a ha t ht
        rw[lvd] at hlv
        have hj2:=hj
        rw[qk0] at hj2
        obtain⟨q0,hq0,rfl⟩:=q54 hj2
        rw[xa0] at hl
        rw[hq0] at hlv
        simp only[hl,Bool.and_true] at hlv
        rw[vk5,← hts]
        exact vr4 s 0 hot j _ hj (by rw[Nat.zero_add];exact hlv) (by rw[xa0];exact hl) a ha t ht
      ·cases hk
     ·cases h
    ·cases h
   ·cases h
  ·rename_i hie
   have hne:i≠e:=fun hh=>by subst hh;rw[Nat.beq_refl] at hie;cases hie
   have fin:∀ {sv:List TOb},WkS (dnS s) (dnS sv)→(zw5 A A.size e i=false→sv=sm)→(opC sc cf ts A sv o fr fun fr=>vp1 sc cf ts A e π s sm sd l (i+1) fr k)=some b→∃ F s1,k F s1=some b∧WkS (dnS s1) (dnS sm)∧HD sc.P A (some e) (dnS s) (dnS s1) ts (o::l) i (dns fr) (fun fr'=>fr'=dns F):=by
    intro sv w2 hsv h
    obtain⟨F1,h2,h3⟩:=kh1 hC h
    obtain⟨F,s1,h4,h5,h6⟩:=v38 hC hlt hsm hsd hts hot l (i+1) F1 k (by omega) h2
    refine⟨F,s1,h4,h5,?_⟩
    unfold HD
    rcases h3 with⟨h7,h8⟩|⟨h7,v,h8,h9,h10⟩
    ·rw[h7]
     exact⟨fun hh=>by cases hh;omega,by rw[← h8];exact h6⟩
    ·rw[h7]
     refine⟨v,?_,h9,by rw[← h10];exact h6⟩
     unfold q7j
     dsimp only
     rw[if_neg (by omega)]
     exact⟨fun _=>zl9 h8 w2,fun hh=>zl9 h8 (by rw[hsv hh];exact h5)⟩
   split at h
   ·rename_i ha
    exact fin (.refl _) (fun hh=>by rw[ha] at hh;cases hh) h
   ·exact fin w0 (fun _=>rfl) h
theorem kw5 (hC:q13 sc.P cf.C){hd:HDat}{π:List Nat}{id:Nat}{fr:List TV}{s:List TOb}{k:List TV→List TOb→Option β}(h:drawC sc cf hd e π A fr s k=some b):
  ∃ F S,k F S=some b∧AW cf.n0 sc.P (.region id A true) (dns fr) (dnS s) (Ex .normal F S):=by
 unfold drawC at h
 obtain⟨h1,h2⟩:=qb4 h
 simp only[Bool.and_eq_true,Nat.blt_eq] at h1
 obtain⟨⟨hok,hm⟩,hen⟩:=h1
 split at h2
 case isFalse=>cases h2
 rename_i hL
 rw[qu6,qu6] at h2
 split at h2
 case h_2=>cases h2
 rename_i hot
 rw[x85] at h2
 have hlt:=kw0 (A:=A) fun i o h=>((zq0 hok).2.1 i o h).1
 obtain⟨F,s1,h3,h4,h5⟩:=v38 hC hlt rfl rfl rfl hot (A.toList.take hd.n) 0 _ _ (Nat.zero_le _) h2
 obtain⟨F2,S2,h6,h7⟩:=z90 (n0:=cf.n0) hC (A:=A) (A.toList.drop hd.n) F s1 k h3
 refine⟨F2,S2,h6,?_⟩
 refine AW_weaken (x86 (yf0 (xd4 false π 0 s)) (dns fr)) (.refl _) ?_
 rw[wu0] at h5
 refine AL_draw (n:=hd.n) (e:=some e) (s1:=dnS s1) (ts:=yf0 (xd4 false π 0 s)) hm (by rw[w64,qc0,hL];exact hok) (fun x hx=>by cases hx;exact hen) (fun hx=>by cases hx) ?_ ?_
 ·intro t q hq hmem
  rw[w26] at hq
  have:=qz7 hq
  simp only[List.contains_eq_mem,decide_eq_false_iff_not] at this
  exact this hmem
 ·refine ku9 ?_ _ _ _ h5
  rintro fr' rfl
  exact h7
end
def evIdx (n0:Nat):List (Bool×Nat)→List Nat
 |[]=>[]
 |(true,i)::l=>(n0+i)::evIdx n0 l
 |(false,i)::l=>i::evIdx n0 l
def DR :vi6:=fun sc cf β id A fr s k=>match xp5 sc.heads id with
 |some hd=>match hd.ev with
  |[]=>draw3 sc cf hd A fr s k
  |(e,l)::_=>drawC sc cf hd e (evIdx cf.n0 l) A fr s k
 |none=>none
theorem vg0 :vi5 DR:=by
 intro sc cf β id A fr s k b hC h
 unfold DR at h
 split at h
 ·split at h
  ·exact kw4 hC h
  ·exact kw5 hC h
 ·cases h
abbrev Ent :=(β:Type)→List TV→List TOb→(TV→List TOb→Option β)→Option β
def q16 (P:Program)(f:FuncId)(E:Ent):Prop:=∀ (β:Type) (args:List TV) (s:List TOb) (k:TV→List TOb→Option β) (b:β),E β args s k=some b →
 z06 P f=true∧∃ r s',Ok P f (dns args) (dnS s) (dn r) (dnS s')∧k r s'=some b
def tab :List (FuncId×Ent)→q46
 |[],_,_,_,_,_=>none
 |(g,E)::l,f,β,args,s,k=>if f=g then E β args s k else tab l f β args s k
theorem q25 (P:Program):q13 P (tab []):=fun f β args s k b h=>by simp[tab] at h
theorem q06 {P:Program}{g:FuncId}{E:Ent}{l:List (FuncId×Ent)}(h1:q16 P g E)(h2:q13 P (tab l)):q13 P (tab ((g,E)::l)):=by
 intro f β args s k b h
 simp only[tab] at h
 split at h
 ·rename_i hf;subst hf;exact h1 β args s k b h
 ·exact h2 f β args s k b h
def zt4 (P:Program)(N:Nat)(C:q46)(fh:FH)(fn:Func)(c:Code):Ent:=fun β args s k =>
 cond (args.all fun a=>(wd3 a).isNone) (q20 DR P N C fh fn c β args s k) none
theorem qc4 {P:Program}{N:Nat}{C:q46}{fh:FH}{f:FuncId}{fn:Func}{c:Code}(hC:q13 P C)(hf:P.funcs[f]?=some fn)(hb:fn.body=some c)(hen:z06 P f=true):q16 P f (zt4 P N C fh fn c):=by
 intro β args s k b h
 obtain⟨h1,h2⟩:=qb4 h
 refine⟨hen,wz3 vg0 hC hf hb ?_ h2⟩
 intro a ha
 have:=List.all_eq_true.1 h1 a ha
 simpa using this
def q38 (rts:List Ty)(r:TV)(s:List TOb):Option (RT rts):=match s with
 |[]=>decR rts r
 |_=>none
def q29 (pts rts:List Ty)(m:Els pts→Option (RT rts)):Ent:=fun β args s k=>match decA pts args with
 |some x=>match m x with
  |some r=>k (encR rts r) s
  |none=>none
 |none=>none
theorem x97 :∀ {ts:List Ty} {vs:List TV} {x:Els ts},decA ts vs=some x→Wks (dns vs) (dns (qb7 ts x))
 |[],[],x,h=>.nil
 |[],_::_,x,h=>by simp[decA] at h
 |_::_,[],x,h=>by simp[decA] at h
 |t::ts,v::vs,x,h=>by
  simp only[decA] at h
  split at h
  ·rename_i y hy
   split at h
   ·rename_i ys hys
    cases h
    exact .cons (y12 hy) (x97 hys)
   ·cases h
  ·cases h
theorem kb5 :∀ {ts:List Ty} {v:TV} {x:RT ts},decR ts v=some x→Wk (dn v) (dn (encR ts x))
 |[t],v,x,h=>y12 h
 |[],v,x,h=>by
  unfold decR at h
  cases v<;>try (cases h;done)
  rename_i vs
  cases vs with
  |nil=>exact .refl _
  |cons=>cases h
 |t::u::ts,v,x,h=>by
  cases v<;>try (cases h;done)
  rename_i vs
  exact .tuple (x97 (ts:=t::u::ts) (x:=x) h)
theorem u37 (t:Ty)(x:El t):wd3 (ks0 t x)=none:=by cases t<;>rfl
theorem kc0 :∀ (ts:List Ty) (x:Els ts),∀ a∈qb7 ts x,wd3 a=none
 |[],_,a,h=>by simp[qb7] at h
 |t::ts,x,a,h=>by
  simp only[qb7,List.mem_cons] at h
  rcases h with rfl|h
  ·exact u37 t x.1
  ·exact kc0 ts x.2 a h
theorem je4 :∀ (t:Ty) (x:El t),(dn (ks0 t x)).free=true
 |.int _,_=>rfl
 |.bool,_=>rfl
 |.str,_=>rfl
 |.list e,xs=>wn6 xs
 |.st fs,x=>by
  have e:dns (xz4 fs x)=qb9 fs x:=wt9 fs x
  have h:qp7 (qb9 fs x)=true:=xd1 fun a h=>jg5 fs x a h
  exact(congrArg qp7 e).trans h
theorem vk9 :∀ (ts:List Ty) (x:Els ts),qp7 (dns (qb7 ts x))=true
 |[],_=>rfl
 |t::ts,x=>by simp only[qb7,dns,qp7,je4 t x.1,vk9 ts x.2,Bool.and_self]
theorem kc1 :∀ (ts:List Ty) (x:RT ts),(dn (encR ts x)).free=true
 |[t],x=>je4 t x
 |[],_=>rfl
 |t::u::ts,x=>by simp only[encR,dn,AV.free];exact vk9 (t::u::ts) x
theorem x64 {P:Program}{f:FuncId}{args:List AV}{r:AV}(h:Ok P f args [] r [])(ha:qp7 args=true)(hr:r.free=true)(S:List Ob):Ok P f args S r S:=by
 intro M G w cargs hS hG hargs
 refine(OkP_at h ha hr hS.toS hG hargs).mono ?_
 rintro e w' ⟨v,G',h1,h2,h3,h4⟩
 exact⟨v,G',h1,h2,h3,h4.mono fun _ _=>False.elim⟩
theorem Ok.args {P:Program}{f:FuncId}{args args':List AV}{s s':List Ob}{r:AV}(h:Ok P f args' s r s')(hw:Wks args args'):Ok P f args s r s' :=
 fun M G w cargs hS hG hargs=>h M G w cargs hS hG (hw.VRs0 hargs)
theorem q10 {P:Program}{N:Nat}{C:q46}{fh:FH}{f:FuncId}{fn:Func}{c:Code}{pts rts:List Ty}{m:Els pts→Option (RT rts)}(hC:q13 P C)(hf:P.funcs[f]?=some fn)(hb:fn.body=some c)(hen:z06 P f=true)
  (hm:∀ x,q20 DR P N C fh fn c (RT rts) (qb7 pts x) [] (q38 rts)=m x):q16 P f (q29 pts rts m):=by
 intro β args s k b h
 unfold q29 at h
 split at h
 case h_2=>cases h
 rename_i x hx
 split at h
 case h_2=>cases h
 rename_i r hr
 refine⟨hen,encR rts r,s,?_,h⟩
 obtain⟨r0,s',h1,h2⟩:=wz3 (b:=r) vg0 hC hf hb (kc0 pts x) ((hm x).trans hr)
 unfold q38 at h2
 split at h2
 case h_2=>cases h2
 have h3:=h1.weaken (kb5 h2)
 exact(x64 h3 (vk9 pts x) (kc1 rts r) _).args (x97 hx)
def q31 (fn:Func):Code:=match fn.body with|some c=>c|none=>.skip
def inR (i:Int)(n:Nat):Bool:=decide (0≤i∧i<n)
def upTo (i:Int)(n:Nat):Bool:=decide (0≤i∧i≤(n:Int))
def inB (a b:Int)(n:Nat):Bool:=decide (0≤a∧a≤b∧b≤(n:Int))
def q17 {α:Type}(xs:List α)(i:Int)(d:α):α:=xs.getD i.toNat d
def setD {α:Type}(xs:List α)(i:Int)(x:α):List α:=xs.set i.toNat x
def q37 (l:List UInt8)(i:Int):Int:=((l.getD i.toNat 0).toNat:Int)
def nvC (c:Code):List Nat→Code
 |[]=>c
 |n::l=>match n with
  |0=>seqL (nvC c l)
  |1=>seqR (nvC c l)
  |2=>conL (nvC c l)
  |3=>conR (nvC c l)
  |4=>blkB (nvC c l)
  |_=>lopB (nvC c l)
def nv (l:List Nat)(f:Func):Code:=nvC (q31 f) l
abbrev KT (β:Type):Type:=List TV→List TOb→Option β
end Go.Proofs.YtgicljncknbgcaaGreat.Abs
