/- Each step that the function tells is one that the operation takes. -/
import Derived.Test.YtgicljncknbgcaaAD
namespace Go.Proofs.Ytgicljncknbgcaa.Abs
open Go Go.ChangeShapes Go.WideShapes Go.ChangeAt Go.RowKit
set_option linter.unusedVariables false
set_option linter.unusedSimpArgs false

section
variable {P : Program} {o : Oper} {fr : List AV} {s : List Ob}
theorem Step_indexAddr_arr {t e : TypeId} {x y : Operand} {i n size : Nat} {kd : IntKind} {ix : Int} (ho : o.op = .indexAddr t x y) (he : aElem P t = some (e, size)) (hx : aEval fr x = .arr i n) (hy : aEval fr y = .int kd ix)
    (h0 : 0 ≤ ix) (h1 : ix < n) : Still P o fr s (.ref i (ix.toNat * size)) := fun M G w a hS hf => by
    have hv := (hf.eval x).1
    have hu := (hf.eval y).1
    rw [hx] at hv
    rw [hy] at hu
    simp only [VR0] at hv hu
    obtain ⟨⟨cap, e1, e2⟩, e3⟩ := hv
    obtain ⟨h2, i', h3, h4, h5⟩ := aElem_spec he
    refine ⟨.pointer (some ⟨G.mu i, ix.toNat * size, none⟩), ?_, by simp only [VR0]; exact ⟨trivial, e3⟩, OwnC.of_plain rfl⟩
    simp [execOp, ho, e1, hu, Instr.indexAt, asIntOf, run_underlying h2, h0, h1, run_sizeOf h3, h4, Addr_add]
theorem Step_index_str {t : TypeId} {x y : Operand} {l : List UInt8} {kd : IntKind} {ix : Int} {b : UInt8} (ho : o.op = .index t x y) (hu : P.underlying t = some .string) (hx : aEval fr x = .str l) (hy : aEval fr y = .int kd ix)
    (h0 : 0 ≤ ix) (hb : l[ix.toNat]? = some b) : Still P o fr s (.int .u8 (b.toNat : Int)) := fun M G w a hS hf => by
    have hv := (hf.eval x).1
    have hu' := (hf.eval y).1
    rw [hx] at hv
    rw [hy] at hu'
    simp only [VR0] at hv hu'
    refine ⟨.int .u8 (b.toNat : Int), ?_, by simp only [VR0], OwnC.of_plain rfl⟩
    have hget : (ByteArray.mk l.toArray)[ix.toNat]? = some b := by
      have hlt : ix.toNat < l.length := lt_of_some hb
      rw [getElem?_pos _ _ (by simpa [ByteArray.size] using hlt)]
      rw [List.getElem?_eq_getElem hlt] at hb
      cases hb
      rfl
    simp only [execOp, ho, hv, hu', Instr.index, asIntOf, Sem.run_bind, Sem.run_pure, Result.andThen_ok, run_underlying hu]
    rw [if_pos h0, hget]
    rfl
theorem Step_len_str {c : Call} {x : Operand} {t : TypeId} {l : List UInt8} (ho : o.op = .call c) (hc : c.callee = .builtin .len) (ha : c.args = #[x]) (ht : c.argTypes[0]? = some t) (hu : P.underlying t = some .string) (hx : aEval fr x = .str l) : Still P o fr s (.int .i64 l.length) := fun M G w a hS hf => by
    have hv := (hf.eval x).1
    rw [hx] at hv
    simp only [VR0] at hv
    refine ⟨.int .i64 l.length, ?_, by simp only [VR0], OwnC.of_plain rfl⟩
    have hsz : (ByteArray.mk l.toArray).size = l.length := by simp [ByteArray.size]
    simp [execOp, ho, resolve, hc, ha, invoke, builtin, Builtin.len_, ht, run_underlying hu, hv, goInt, hsz]
theorem Step_len_arr {c : Call} {x : Operand} {t : TypeId} {e : TypeId} {i n : Nat} (ho : o.op = .call c) (hc : c.callee = .builtin .len) (ha : c.args = #[x]) (ht : c.argTypes[0]? = some t) (hu : P.underlying t = some (.slice e)) (hx : aEval fr x = .arr i n) : Still P o fr s (.int .i64 n) := fun M G w a hS hf => by
    have hv := (hf.eval x).1
    rw [hx] at hv
    simp only [VR0] at hv
    obtain ⟨⟨cap, e1, e2⟩, e3⟩ := hv
    refine ⟨.int .i64 n, ?_, by simp only [VR0], OwnC.of_plain rfl⟩
    simp [execOp, ho, resolve, hc, ha, invoke, builtin, Builtin.len_, ht, run_underlying hu, e1, goInt]
theorem Step_slice_str {t : TypeId} {x : Operand} {lo hi : Option Operand} {b : List UInt8} {l h : Nat} (ho : o.op = .slice t x lo hi none) (hu : P.underlying t = some .string) (hx : aEval fr x = .str b)
    (hlo : aBound fr 0 lo = some l) (hhi : aBound fr b.length hi = some h) (h1 : l ≤ h) (h2 : h ≤ b.length) : Still P o fr s (.str ((b.take h).drop l)) := fun M G w a hS hf => by
    have hv := (hf.eval x).1
    rw [hx] at hv
    simp only [VR0] at hv
    have bnd : ∀ (b : Option Operand) (d r : Nat), aBound fr d b = some r → (b = none ∧ r = d) ∨ ∃ x k n, b = some x ∧ a.eval x = .int k n ∧ 0 ≤ n ∧ r = n.toNat := by
      intro b d r hb
      cases b with
      | none => simp only [aBound, Option.some.injEq] at hb; exact .inl ⟨rfl, hb.symm⟩
      | some y =>
        simp only [aBound] at hb
        split at hb
        · rename_i k m hy
          split at hb
          · rename_i h0
            cases hb
            have := (hf.eval y).1
            rw [hy] at this
            simp only [VR0] at this
            exact .inr ⟨y, k, m, rfl, this, h0, rfl⟩
          · cases hb
        · cases hb
    have hsz : (ByteArray.mk b.toArray).size = b.length := by simp [ByteArray.size]
    have q1 : (Instr.sliceBounds false b.length b.length (lo.map a.eval) (hi.map a.eval) none).run P w = .ok (l, h, b.length) w := by
      rcases bnd lo 0 l hlo with ⟨rfl, rfl⟩ | ⟨xl, kl, nl, rfl, r1, r2, rfl⟩ <;> rcases bnd hi _ h hhi with ⟨rfl, rfl⟩ | ⟨xh, kh, nh, rfl, r3, r4, rfl⟩
      · simp [Instr.sliceBounds]
      · have : nh ≤ b.length := by omega
        simp [Instr.sliceBounds, Instr.sliceBound, r3, asIntOf, r4, this]
      · have : nl ≤ b.length := by omega
        simp [Instr.sliceBounds, Instr.sliceBound, r1, asIntOf, r2, this]
      · have : nh ≤ b.length := by omega
        have : nl ≤ max nh 0 := by omega
        simp [Instr.sliceBounds, Instr.sliceBound, r1, r3, asIntOf, r2, r4, *]
    refine ⟨.string ((ByteArray.mk b.toArray).extract l h), ?_, ?_, OwnC.of_plain rfl⟩
    · simp only [execOp, ho, Sem.run_bind, Instr.sliceAt, run_underlying hu, Result.andThen_ok, Option.map_none, hv, Instr.slice, Option.isSome_none, hsz, q1, Sem.run_pure, Sem.run_ite]
      rfl
    · simp only [VR0, Value.string.injEq]
      apply ByteArray.ext
      simp [ByteArray.data_extract, List.extract_eq_take_drop, List.drop_take]
theorem Step_append {c : Call} {x y : Operand} {t : TypeId} {fr' : List AV} {v : AV} {s' : List Ob} (d : Nat) (ho : o.op = .call c) (hc : c.callee = .builtin .append) (ha : c.args = #[x, y]) (ht : c.argTypes = #[t, t])
    (h : aAppend P d fr s t (aEval fr x) (aEval fr y) = some (fr', v, s')) : Step P o fr s fr' v s' := by
  unfold aAppend at h
  split at h
  case h_2 => cases h
  rename_i cs2 m g2 hy
  split at h
  · cases h
  rename_i e size he
  split at h
  case h_2 => cases h
  rename_i cs n g hx
  split at h
  · rename_i hc0
    obtain ⟨rfl, hnil⟩ := hc0
    have : cs2 = [] := by simpa using hnil
    subst this
    cases h
    exact Step_still (Step_append_none ho hc ha ht he hx hy)
  · split at h
    case isFalse => cases h
    rename_i hcond
    obtain ⟨h0, hl2, hone, hfit⟩ := hcond
    split at h
    · split at h
      · rename_i hl1
        cases h
        exact Step_append_full d ho hc ha ht he hx hy h0 hl1 hl2 hone hfit
      · cases h
    · split at h
      · rename_i hcc
        obtain ⟨rfl, rfl⟩ := hcc
        cases h
        exact Step_append_own d ho hc ha ht he hx hy h0 hl2 hone hfit
      · cases h
    · cases h
theorem map_some3 {α : Type} {x : Option α} {f : α → List AV × AV × List Ob} {r : List AV × AV × List Ob} (h : x.map f = some r) : ∃ v, x = some v ∧ f v = r := by
  cases x with
  | none => cases h
  | some v => exact ⟨v, rfl, by simpa using h⟩
theorem Step_max {c : Call} {x y : Operand} {k k2 : IntKind} {p q : Int} (ho : o.op = .call c) (hc : c.callee = .builtin .max) (ha : c.args = #[x, y]) (hx : aEval fr x = .int k p) (hy : aEval fr y = .int k2 q) : Still P o fr s (.int k (iMax p q)) := fun M G w a hS hf => by
    have h1 := (hf.eval x).1
    have h2 := (hf.eval y).1
    rw [hx] at h1
    rw [hy] at h2
    simp only [VR0] at h1 h2
    refine ⟨.int k (iMax p q), ?_, by simp only [VR0], OwnC.of_plain rfl⟩
    simp [execOp, ho, resolve, hc, ha, invoke, builtin, Builtin.max_, Builtin.max2, h1, h2, iMax]
theorem Step_min {c : Call} {x y : Operand} {k k2 : IntKind} {p q : Int} (ho : o.op = .call c) (hc : c.callee = .builtin .min) (ha : c.args = #[x, y]) (hx : aEval fr x = .int k p) (hy : aEval fr y = .int k2 q) : Still P o fr s (.int k (iMin p q)) := fun M G w a hS hf => by
    have h1 := (hf.eval x).1
    have h2 := (hf.eval y).1
    rw [hx] at h1
    rw [hy] at h2
    simp only [VR0] at h1 h2
    refine ⟨.int k (iMin p q), ?_, by simp only [VR0], OwnC.of_plain rfl⟩
    simp [execOp, ho, resolve, hc, ha, invoke, builtin, Builtin.min_, Builtin.min2, h1, h2, iMin]
theorem Pure_det {v : AV} (h : aPureV P fr s o = some v) : Still P o fr s v ∨ Foreign P o fr s v := by
  unfold aPureV at h
  split at h
  · rename_i x ho; cases h; exact .inl (Step_move ho)
  · rename_i x ho; cases h; exact .inl (Step_assign ho)
  · rename_i c x y ho
    split at h
    · rename_i b hb; cases h; exact .inl (Step_pick ho hb)
    · cases h
  · rename_i t parts ho
    exact .inl (Step_build ho h)
  · rename_i t n parts ho
    exact .inr (Step_buildSlice ho h)
  · rename_i t x ho
    unfold aLoadAt at h
    split at h
    · rename_i i k hx
      split at h
      · rename_i ob hi
        split at h
        · rename_i hl; exact .inl (Step_load_ref ho hx hi hl h)
        · cases h
      · cases h
    · rename_i cs k hx
      cases h3 : aLoad P t cs k with
      | none => rw [h3] at h; cases h
      | some u' =>
        rw [h3] at h
        simp at h
        subst h
        exact .inl (Step_load_eptr ho hx h3)
    · cases h
  · rename_i x ho
    split at h
    · rename_i i k hx; cases h; rw [← hx]; exact .inl (Step_nilCheck ho (by rw [hx]; trivial))
    · rename_i cs k hx; cases h; rw [← hx]; exact .inl (Step_nilCheck ho (by rw [hx]; trivial))
    · cases h
  · rename_i op t x y ty ho
    exact .inl (Step_bin ho h)
  · rename_i op t x ho
    exact .inl (Step_un ho h)
  · rename_i src dst x ho
    exact .inl (Step_conv ho h)
  · rename_i fn first captured ho
    split at h
    · rename_i h0
      cases h
      have : first = #[] := Array.eq_empty_of_size_eq_zero h0
      subst this
      exact .inl (Step_makeFunc ho)
    · cases h
  · rename_i t x lo hi ho
    unfold aSlice at h
    split at h
    · rename_i cs n g hx
      split at h
      · rename_i e size l hh he hlo hhi
        split at h
        · rename_i hc; cases h; exact .inl (Step_slice ho he hx hlo hhi hc.1 hc.2)
        · cases h
      · cases h
    · rename_i b hx
      split at h
      · rename_i l hh he hlo hhi
        split at h
        · rename_i hc; cases h; exact .inl (Step_slice_str ho he hx hlo hhi hc.1 hc.2)
        · cases h
      · cases h
    · cases h
  · rename_i t x f ho
    unfold aFieldAddr at h
    split at h
    · rename_i i k hx
      cases h3 : aField P t f with
      | none => rw [h3] at h; cases h
      | some r => rw [h3] at h; simp at h; subst h; exact .inl (Step_fieldAddr_ref ho hx h3)
    · rename_i cs k hx
      cases h3 : aField P t f with
      | none => rw [h3] at h; cases h
      | some r => rw [h3] at h; simp at h; subst h; exact .inl (Step_fieldAddr_eptr ho hx h3)
    · cases h
  · rename_i t x y ho
    unfold aIndexAddr at h
    split at h
    · rename_i cs n g kd ix hx hy
      split at h
      · rename_i e size he
        split at h
        · rename_i hc; cases h; exact .inl (Step_indexAddr ho he hx hy hc.1 hc.2.1 (by intro h0; rw [h0] at hc; simp at hc))
        · cases h
      · cases h
    · rename_i i n kd ix hx hy
      split at h
      · rename_i e size he
        split at h
        · rename_i hc; cases h; exact .inl (Step_indexAddr_arr ho he hx hy hc.1 hc.2)
        · cases h
      · cases h
    · cases h
  · rename_i t x y ho
    unfold aIndex at h
    split at h
    · rename_i l kd ix hx hy
      split at h
      · rename_i hu
        split at h
        · rename_i h0
          cases h3 : l[ix.toNat]? with
          | none => rw [h3] at h; cases h
          | some b => rw [h3] at h; simp at h; subst h; exact .inl (Step_index_str ho hu hx hy h0 h3)
        · cases h
      · cases h
    · cases h
  · rename_i x k ho
    split at h
    · rename_i vs hx
      cases h3 : vs[k]? with
      | none => rw [h3] at h; cases h
      | some u => rw [h3] at h; simp at h; subst h; exact .inl (Step_extract ho hx h3)
    · cases h
  · rename_i c ho
    split at h
    · rename_i hc
      split at h
      · rename_i x t ha ht
        have ha' : c.args = #[x] := by apply Array.ext'; simpa using ha
        have ht' : c.argTypes[0]? = some t := by rw [← Array.getElem?_toList, ht]; rfl
        unfold aLen at h
        split at h
        · rename_i cs n g hx
          split at h
          · rename_i e hu; cases h; exact .inl (Step_len ho hc ha' ht' hu hx)
          · cases h
        · rename_i i n hx
          split at h
          · rename_i e hu; cases h; exact .inl (Step_len_arr ho hc ha' ht' hu hx)
          · cases h
        · rename_i b hx
          split at h
          · rename_i hu; cases h; exact .inl (Step_len_str ho hc ha' ht' hu hx)
          · cases h
        · cases h
      · cases h
    · rename_i hc
      split at h
      · rename_i x y ha
        have ha' : c.args = #[x, y] := by apply Array.ext'; simpa using ha
        split at h
        · rename_i k p k2 q hx hy; cases h; exact .inl (Step_max ho hc ha' hx hy)
        · cases h
      · cases h
    · rename_i hc
      split at h
      · rename_i x y ha
        have ha' : c.args = #[x, y] := by apply Array.ext'; simpa using ha
        split at h
        · rename_i k p k2 q hx hy; cases h; exact .inl (Step_min ho hc ha' hx hy)
        · cases h
      · cases h
    · cases h
  · cases h
theorem Step_pure {v : AV} (h : aPureV P fr s o = some v) : Step P o fr s fr v s := (Pure_det h).elim Step_still Step_foreign
theorem Step_det {tb : Nat} {fr' : List AV} {v : AV} {s' : List Ob} (h : aDet P tb fr s o = some (fr', v, s')) : Step P o fr s fr' v s' := by
  unfold aDet at h
  split at h
  · rename_i u hu; cases h; exact Step_pure hu
  split at h
  · rename_i t ho
    obtain ⟨cs, h1, h2⟩ := map_some3 h
    cases h2
    exact Step_alloc ho h1
  · rename_i t x ho
    obtain ⟨cs, h1, h2⟩ := map_some3 h
    cases h2
    exact Step_box ho h1
  · rename_i t x y ho
    obtain ⟨u, h1, h2⟩ := map_some3 h
    cases h2
    unfold aStoreAt at h1
    split at h1
    · rename_i i k hx
      split at h1
      · rename_i ob hi
        split at h1
        · rename_i hl
          split at h1
          · rename_i new hnew
            cases h3 : aStore P t ob.cs k new with
            | none => rw [h3] at h1; cases h1
            | some cs' =>
              rw [h3] at h1
              simp at h1
              subst h1
              exact Step_store ho hx hi hl hnew h3
          · cases h1
        · cases h1
      · cases h1
    · cases h1
  · rename_i c ho
    split at h
    · rename_i hc
      split at h
      · rename_i x y t t' ha ht
        split at h
        · rename_i htt
          subst htt
          have ha' : c.args = #[x, y] := by apply Array.ext'; simpa using ha
          have ht' : c.argTypes = #[t, t] := by apply Array.ext'; simpa using ht
          exact Step_append _ ho hc ha' ht' h
        · cases h
      · cases h
    · cases h
  · cases h
end

end Go.Proofs.Ytgicljncknbgcaa.Abs
