/- The functions of the program, told on typed values, printed by a program: each tells what the reckoning of its body tells. -/
import Derived.Test.YtgicljncknbgcaaL7
import Derived.Test.YtgicljncknbgcaaFA
import Derived.Test.YtgicljncknbgcaaProg
namespace Go.Proofs.Ytgicljncknbgcaa.Abs
set_option maxRecDepth 100000
open Go Go.Proofs
set_option linter.unusedVariables false
set_option linter.unusedSimpArgs false
def t_N1 : Ty := .st [.bool, (.list (.int .i64))]
abbrev T_N1 : Type := Bool × (List Int) × Unit
def d_N1 : T_N1 := (false, [], ())
def lit_tab_0 : List UInt8 := 0 :: 1 :: 2 :: 2 :: 3 :: 3 :: 3 :: 3 :: 4 :: 4 :: 4 :: 4 :: 4 :: 4 :: 4 :: 4 :: 5 :: 5 :: 5 :: 5 :: 5 :: 5 :: 5 :: 5 :: 5 :: 5 :: 5 :: 5 :: 5 :: 5 :: 5 :: 5 :: 6 :: 6 :: 6 :: 6 :: 6 :: 6 :: 6 :: 6 :: 6 :: 6 :: 6 :: 6 :: 6 :: 6 :: 6 :: 6 :: 6 :: 6 :: 6 :: 6 :: 6 :: 6 :: 6 :: 6 :: 6 :: 6 :: 6 :: 6 :: 6 :: 6 :: 6 :: 6 :: 7 :: 7 :: 7 :: 7 :: 7 :: 7 :: 7 :: 7 :: 7 :: 7 :: 7 :: 7 :: 7 :: 7 :: 7 :: 7 :: 7 :: 7 :: 7 :: 7 :: 7 :: 7 :: 7 :: 7 :: 7 :: 7 :: 7 :: 7 :: 7 :: 7 :: 7 :: 7 :: 7 :: 7 :: 7 :: 7 :: 7 :: 7 :: 7 :: 7 :: 7 :: 7 :: 7 :: 7 :: 7 :: 7 :: 7 :: 7 :: 7 :: 7 :: 7 :: 7 :: 7 :: 7 :: 7 :: 7 :: 7 :: 7 :: 7 :: 7 :: 7 :: 7 :: 7 :: 7 :: 8 :: 8 :: 8 :: 8 :: 8 :: 8 :: 8 :: 8 :: 8 :: 8 :: 8 :: 8 :: 8 :: 8 :: 8 :: 8 :: 8 :: 8 :: 8 :: 8 :: 8 :: 8 :: 8 :: 8 :: 8 :: 8 :: 8 :: 8 :: 8 :: 8 :: 8 :: 8 :: 8 :: 8 :: 8 :: 8 :: 8 :: 8 :: 8 :: 8 :: 8 :: 8 :: 8 :: 8 :: 8 :: 8 :: 8 :: 8 :: 8 :: 8 :: 8 :: 8 :: 8 :: 8 :: 8 :: 8 :: 8 :: 8 :: 8 :: 8 :: 8 :: 8 :: 8 :: 8 :: 8 :: 8 :: 8 :: 8 :: 8 :: 8 :: 8 :: 8 :: 8 :: 8 :: 8 :: 8 :: 8 :: 8 :: 8 :: 8 :: 8 :: 8 :: 8 :: 8 :: 8 :: 8 :: 8 :: 8 :: 8 :: 8 :: 8 :: 8 :: 8 :: 8 :: 8 :: 8 :: 8 :: 8 :: 8 :: 8 :: 8 :: 8 :: 8 :: 8 :: 8 :: 8 :: 8 :: 8 :: 8 :: 8 :: 8 :: 8 :: 8 :: 8 :: 8 :: 8 :: 8 :: 8 :: 8 :: 8 :: 8 :: 8 :: 8 :: 8 :: 8 :: 8 :: 8 :: 8 :: []
def t_Value : Ty := .st [(.int .u8), (.int .i64), .str]
abbrev T_Value : Type := Int × Int × (List UInt8) × Unit
def d_Value : T_Value := (0, 0, [], ())
def r1_Of_H0 : LH := ⟨[(0, .int .i64), (2, .asis), (3, .bool), (4, .own (.int .i64) 504 3 1)], [], [.cells [.bool, .lst (.int .i64)]]⟩
def r1_Of_H : FH := ⟨[r1_Of_H0], [], [], [], false, [], []⟩
noncomputable def r1_Of_T (N : Nat) : CallT := tab []
theorem r1_Of_Ts (N : Nat) : CallSound Try.prog (r1_Of_T N) := tab_nil _
noncomputable def r1_Of_sc : Sc := scOf Try.prog r1_Of_H
noncomputable def r1_Of_cf (N : Nat) : Cfg := ⟨N, r1_Of_T N, 0⟩
noncomputable def r1_Of_fin (N : Nat) : Exit → List TV → List TOb → Option T_N1 := fin Try.prog 0 Try.f6.results.toList (kPure [t_N1])
def r1_Of_E1 (neg : Bool) (t2_Neg : Bool) (t2_D : List Int) (e : Int × List Int) : List TV := match e with
  | (n1, d) => frm 25 [(0, .int .i64 n1), (2, .ref 0 0), (3, .bool neg), (4, .tl (.int .i64) d (.own 504 3 1))]
def r1_Of_S1 (neg : Bool) (t2_Neg : Bool) (t2_D : List Int) (e : Int × List Int) : List TOb := match e with
  | (n1, d) => [.cells [.bool t2_Neg, .tl (.int .i64) t2_D .unk] 24 true]
noncomputable def r1_Of_R1 (N : Nat)  : (List TV → List TOb → Option T_N1) → List TV → List TOb → Option T_N1 := rawL DR r1_Of_sc (r1_Of_cf N) (lopB (blkB (seqL (seqR (seqR (seqR (bodyOf Try.f6))))))) r1_Of_H0 (r1_Of_H.loops.drop 1) (kBlk 0 (kSeq DR r1_Of_sc (r1_Of_cf N) (seqR (seqR (seqR (seqR (bodyOf Try.f6))))) (r1_Of_H.loops.drop 1) (r1_Of_fin N)))
def r1_Of_B1 (N : Nat) (neg : Bool) (t2_Neg : Bool) (t2_D : List Int)  (K0 : (Int × List Int) → Option T_N1) (e : Int × List Int) : Option T_N1 :=
  match e with
  | (n1, d) =>
    bif (n1 != 0) then
      bif decide ((Int.tmod n1 10000) < 0) then
        bif inI64 (0 - (Int.tmod n1 10000)) then
        bif fits (d.length + [0 - (Int.tmod n1 10000)].length) 17592186044416 then
        bif inI64 (Int.tdiv n1 10000) then
        K0 (Int.tdiv n1 10000, (d ++ [0 - (Int.tmod n1 10000)]))
        else none
        else none
        else none
      else
        bif fits (d.length + [Int.tmod n1 10000].length) 17592186044416 then
        bif inI64 (Int.tdiv n1 10000) then
        K0 (Int.tdiv n1 10000, (d ++ [Int.tmod n1 10000]))
        else none
        else none
    else
      some (neg, d, ())
theorem r1_Of_l1 (N : Nat) (neg : Bool) (t2_Neg : Bool) (t2_D : List Int)  (n : Nat) (e : Int × List Int) : iterF (r1_Of_R1 N ) n ((r1_Of_E1 neg t2_Neg t2_D) e) ((r1_Of_S1 neg t2_Neg t2_D) e) = iter (r1_Of_B1 N neg t2_Neg t2_D ) n e :=
  loop_iter (r1_Of_E1 neg t2_Neg t2_D) (r1_Of_S1 neg t2_Neg t2_D) (by intro K e; obtain ⟨n1, d⟩ := e; kernel_rfl) n e
def r1_Of_t (N : Nat) (n : Int) (l1 : Bool → Bool → (List Int) → (Int × List Int) → Option T_N1) : Option T_N1 :=
  l1 (decide (n < 0)) false [] (n, [])
def r1_Of (N : Nat) (n : Int) : Option T_N1 := r1_Of_t N n (fun (neg : Bool) (t2_Neg : Bool) (t2_D : List Int) (e : Int × List Int) => iter (r1_Of_B1 N neg t2_Neg t2_D) N e)
noncomputable def r1_Of_C (N : Nat) (n : Int) : Option (RT [t_N1]) := callBody DR Try.prog N (r1_Of_T N) r1_Of_H Try.f6 (bodyOf Try.f6) (RT [t_N1]) (encA [(.int .i64)] (n, ())) [] (kPure [t_N1])
theorem r1_Of_run (N : Nat) (n : Int) : r1_Of_C N n = r1_Of N n := by
  have h : r1_Of_C N n = r1_Of_t N n (fun (neg : Bool) (t2_Neg : Bool) (t2_D : List Int) (e : Int × List Int) => iterF (r1_Of_R1 N ) N (r1_Of_E1 neg t2_Neg t2_D e) (r1_Of_S1 neg t2_Neg t2_D e)) := by kernel_rfl
  rw [h]
  simp only [r1_Of, r1_Of_l1] <;> rfl
def r1_Of_entO (m : Int → Option T_N1) : Ent := specEnt [(.int .i64)] [t_N1] fun (x : Els [(.int .i64)]) => m x.1
def r1_Of_ent (N : Nat) : Ent := r1_Of_entO (r1_Of N)
theorem r1_Of_sound (N : Nat) : EntSound Try.prog 6 (r1_Of_ent N) := specEnt_sound (r1_Of_Ts N) Try.func6 rfl (by kernel_rfl) fun (x : Els [(.int .i64)]) => r1_Of_run N x.1
def num_Add_H : FH := ⟨[], [], [], [], true, [], []⟩
noncomputable def num_Add_T (N : Nat) : CallT := tab []
theorem num_Add_Ts (N : Nat) : CallSound Try.prog (num_Add_T N) := tab_nil _
def num_Add (N : Nat) (a : Int) (b : Int) : Option (Int × Int × Unit) :=
  bif ((decide (a < 0)) == (decide (b < 0))) then
    bif (!((decide ((IntKind.i64.wrap (a + b)) < 0)) == (decide (a < 0)))) then
      some (0, 9, ())
    else
      some ((IntKind.i64.wrap (a + b)), 0, ())
  else
    some ((IntKind.i64.wrap (a + b)), 0, ())
noncomputable def num_Add_C (N : Nat) (a : Int) (b : Int) : Option (RT [(.int .i64), (.int .i64)]) := callBody DR Try.prog N (num_Add_T N) num_Add_H Try.f7 (bodyOf Try.f7) (RT [(.int .i64), (.int .i64)]) (encA [(.int .i64), (.int .i64)] (a, b, ())) [] (kPure [(.int .i64), (.int .i64)])
theorem num_Add_run (N : Nat) (a : Int) (b : Int) : num_Add_C N a b = num_Add N a b := by kernel_rfl
def num_Add_entO (m : Int → Int → Option (Int × Int × Unit)) : Ent := specEnt [(.int .i64), (.int .i64)] [(.int .i64), (.int .i64)] fun (x : Els [(.int .i64), (.int .i64)]) => m x.1 x.2.1
def num_Add_ent (N : Nat) : Ent := num_Add_entO (num_Add N)
theorem num_Add_sound (N : Nat) : EntSound Try.prog 7 (num_Add_ent N) := specEnt_sound (num_Add_Ts N) Try.func7 rfl (by kernel_rfl) fun (x : Els [(.int .i64), (.int .i64)]) => num_Add_run N x.1 x.2.1
def num_Sub_H : FH := ⟨[], [], [], [], true, [], []⟩
noncomputable def num_Sub_T (N : Nat) : CallT := tab []
theorem num_Sub_Ts (N : Nat) : CallSound Try.prog (num_Sub_T N) := tab_nil _
def num_Sub (N : Nat) (a : Int) (b : Int) : Option (Int × Int × Unit) :=
  bif (!((decide (a < 0)) == (decide (b < 0)))) then
    bif (!((decide ((IntKind.i64.wrap (a - b)) < 0)) == (decide (a < 0)))) then
      some (0, 9, ())
    else
      some ((IntKind.i64.wrap (a - b)), 0, ())
  else
    some ((IntKind.i64.wrap (a - b)), 0, ())
noncomputable def num_Sub_C (N : Nat) (a : Int) (b : Int) : Option (RT [(.int .i64), (.int .i64)]) := callBody DR Try.prog N (num_Sub_T N) num_Sub_H Try.f8 (bodyOf Try.f8) (RT [(.int .i64), (.int .i64)]) (encA [(.int .i64), (.int .i64)] (a, b, ())) [] (kPure [(.int .i64), (.int .i64)])
theorem num_Sub_run (N : Nat) (a : Int) (b : Int) : num_Sub_C N a b = num_Sub N a b := by kernel_rfl
def num_Sub_entO (m : Int → Int → Option (Int × Int × Unit)) : Ent := specEnt [(.int .i64), (.int .i64)] [(.int .i64), (.int .i64)] fun (x : Els [(.int .i64), (.int .i64)]) => m x.1 x.2.1
def num_Sub_ent (N : Nat) : Ent := num_Sub_entO (num_Sub N)
theorem num_Sub_sound (N : Nat) : EntSound Try.prog 8 (num_Sub_ent N) := specEnt_sound (num_Sub_Ts N) Try.func8 rfl (by kernel_rfl) fun (x : Els [(.int .i64), (.int .i64)]) => num_Sub_run N x.1 x.2.1
def num_size_H : FH := ⟨[], [], [], [], true, [], []⟩
noncomputable def num_size_T (N : Nat) : CallT := tab []
theorem num_size_Ts (N : Nat) : CallSound Try.prog (num_size_T N) := tab_nil _
def num_size (N : Nat) (n : Int) : Option Int :=
  bif decide (n < 0) then
    some (IntKind.u64.wrap (0 - (IntKind.u64.wrap n)))
  else
    some (IntKind.u64.wrap n)
noncomputable def num_size_C (N : Nat) (n : Int) : Option (RT [(.int .u64)]) := callBody DR Try.prog N (num_size_T N) num_size_H Try.f41 (bodyOf Try.f41) (RT [(.int .u64)]) (encA [(.int .i64)] (n, ())) [] (kPure [(.int .u64)])
theorem num_size_run (N : Nat) (n : Int) : num_size_C N n = num_size N n := by kernel_rfl
def num_size_entO (m : Int → Option Int) : Ent := specEnt [(.int .i64)] [(.int .u64)] fun (x : Els [(.int .i64)]) => m x.1
def num_size_ent (N : Nat) : Ent := num_size_entO (num_size N)
theorem num_size_sound (N : Nat) : EntSound Try.prog 41 (num_size_ent N) := specEnt_sound (num_size_Ts N) Try.func41 rfl (by kernel_rfl) fun (x : Els [(.int .i64)]) => num_size_run N x.1
def bits_Mul64_H : FH := ⟨[], [], [], [], false, [], []⟩
noncomputable def bits_Mul64_T (N : Nat) : CallT := tab []
theorem bits_Mul64_Ts (N : Nat) : CallSound Try.prog (bits_Mul64_T N) := tab_nil _
def bits_Mul64 (N : Nat) (x : Int) (y : Int) : Option (Int × Int × Unit) :=
  some ((IntKind.u64.wrap ((IntKind.u64.wrap ((IntKind.u64.wrap ((iShr .u64 x (32 : Int)) * (iShr .u64 y (32 : Int)))) + (iShr .u64 (IntKind.u64.wrap ((IntKind.u64.wrap ((iShr .u64 x (32 : Int)) * (iBits .and .u64 y 4294967295))) + (iShr .u64 (IntKind.u64.wrap ((iBits .and .u64 x 4294967295) * (iBits .and .u64 y 4294967295))) (32 : Int)))) (32 : Int)))) + (iShr .u64 (IntKind.u64.wrap ((iBits .and .u64 (IntKind.u64.wrap ((IntKind.u64.wrap ((iShr .u64 x (32 : Int)) * (iBits .and .u64 y 4294967295))) + (iShr .u64 (IntKind.u64.wrap ((iBits .and .u64 x 4294967295) * (iBits .and .u64 y 4294967295))) (32 : Int)))) 4294967295) + (IntKind.u64.wrap ((iBits .and .u64 x 4294967295) * (iShr .u64 y (32 : Int)))))) (32 : Int)))), (IntKind.u64.wrap (x * y)), ())
noncomputable def bits_Mul64_C (N : Nat) (x : Int) (y : Int) : Option (RT [(.int .u64), (.int .u64)]) := callBody DR Try.prog N (bits_Mul64_T N) bits_Mul64_H Try.f40 (bodyOf Try.f40) (RT [(.int .u64), (.int .u64)]) (encA [(.int .u64), (.int .u64)] (x, y, ())) [] (kPure [(.int .u64), (.int .u64)])
theorem bits_Mul64_run (N : Nat) (x : Int) (y : Int) : bits_Mul64_C N x y = bits_Mul64 N x y := by kernel_rfl
def bits_Mul64_entO (m : Int → Int → Option (Int × Int × Unit)) : Ent := specEnt [(.int .u64), (.int .u64)] [(.int .u64), (.int .u64)] fun (x : Els [(.int .u64), (.int .u64)]) => m x.1 x.2.1
def bits_Mul64_ent (N : Nat) : Ent := bits_Mul64_entO (bits_Mul64 N)
theorem bits_Mul64_sound (N : Nat) : EntSound Try.prog 40 (bits_Mul64_ent N) := specEnt_sound (bits_Mul64_Ts N) Try.func40 rfl (by kernel_rfl) fun (x : Els [(.int .u64), (.int .u64)]) => bits_Mul64_run N x.1 x.2.1
def num_signed_H : FH := ⟨[], [], [], [], true, [], []⟩
noncomputable def num_signed_T (N : Nat) : CallT := tab []
theorem num_signed_Ts (N : Nat) : CallSound Try.prog (num_signed_T N) := tab_nil _
def num_signed (N : Nat) (neg : Bool) (hi : Int) (lo : Int) : Option (Int × Int × Unit) :=
  bif decide (hi > 0) then
    some (0, 9, ())
  else
    bif decide (lo > 9223372036854775808) then
      some (0, 9, ())
    else
      bif (lo == 9223372036854775808) then
        bif (!neg) then
          some (0, 9, ())
        else
          bif neg then
            some ((IntKind.i64.wrap (0 - (IntKind.i64.wrap lo))), 0, ())
          else
            some ((IntKind.i64.wrap lo), 0, ())
      else
        bif neg then
          some ((IntKind.i64.wrap (0 - (IntKind.i64.wrap lo))), 0, ())
        else
          some ((IntKind.i64.wrap lo), 0, ())
noncomputable def num_signed_C (N : Nat) (neg : Bool) (hi : Int) (lo : Int) : Option (RT [(.int .i64), (.int .i64)]) := callBody DR Try.prog N (num_signed_T N) num_signed_H Try.f42 (bodyOf Try.f42) (RT [(.int .i64), (.int .i64)]) (encA [.bool, (.int .u64), (.int .u64)] (neg, hi, lo, ())) [] (kPure [(.int .i64), (.int .i64)])
theorem num_signed_run (N : Nat) (neg : Bool) (hi : Int) (lo : Int) : num_signed_C N neg hi lo = num_signed N neg hi lo := by kernel_rfl
def num_signed_entO (m : Bool → Int → Int → Option (Int × Int × Unit)) : Ent := specEnt [.bool, (.int .u64), (.int .u64)] [(.int .i64), (.int .i64)] fun (x : Els [.bool, (.int .u64), (.int .u64)]) => m x.1 x.2.1 x.2.2.1
def num_signed_ent (N : Nat) : Ent := num_signed_entO (num_signed N)
theorem num_signed_sound (N : Nat) : EntSound Try.prog 42 (num_signed_ent N) := specEnt_sound (num_signed_Ts N) Try.func42 rfl (by kernel_rfl) fun (x : Els [.bool, (.int .u64), (.int .u64)]) => num_signed_run N x.1 x.2.1 x.2.2.1
def num_Mul_H : FH := ⟨[], [], [], [], false, [], []⟩
noncomputable def num_Mul_T (N : Nat) : CallT := tab [(41, num_size_ent N), (40, bits_Mul64_ent N), (42, num_signed_ent N)]
theorem num_Mul_Ts (N : Nat) : CallSound Try.prog (num_Mul_T N) := tab_cons (num_size_sound N) <| tab_cons (bits_Mul64_sound N) <| tab_cons (num_signed_sound N) <| tab_nil _
def num_Mul (N : Nat) (a : Int) (b : Int) : Option (Int × Int × Unit) :=
  (num_size N a).bind fun (r : Int) =>
  (num_size N b).bind fun (r1 : Int) =>
  (bits_Mul64 N r r1).bind fun (r2 : Int × Int × Unit) =>
  (num_signed N (!((decide (a < 0)) == (decide (b < 0)))) r2.1 r2.2.1).bind fun (r3 : Int × Int × Unit) =>
  some r3
noncomputable def num_Mul_C (N : Nat) (a : Int) (b : Int) : Option (RT [(.int .i64), (.int .i64)]) := callBody DR Try.prog N (num_Mul_T N) num_Mul_H Try.f9 (bodyOf Try.f9) (RT [(.int .i64), (.int .i64)]) (encA [(.int .i64), (.int .i64)] (a, b, ())) [] (kPure [(.int .i64), (.int .i64)])
theorem num_Mul_run (N : Nat) (a : Int) (b : Int) : num_Mul_C N a b = num_Mul N a b := by kernel_rfl
def num_Mul_entO (m : Int → Int → Option (Int × Int × Unit)) : Ent := specEnt [(.int .i64), (.int .i64)] [(.int .i64), (.int .i64)] fun (x : Els [(.int .i64), (.int .i64)]) => m x.1 x.2.1
def num_Mul_ent (N : Nat) : Ent := num_Mul_entO (num_Mul N)
theorem num_Mul_sound (N : Nat) : EntSound Try.prog 9 (num_Mul_ent N) := specEnt_sound (num_Mul_Ts N) Try.func9 rfl (by kernel_rfl) fun (x : Els [(.int .i64), (.int .i64)]) => num_Mul_run N x.1 x.2.1
def num_Scale_H : FH := ⟨[], [], [], [], false, [], []⟩
noncomputable def num_Scale_T (N : Nat) : CallT := tab [(9, num_Mul_ent N)]
theorem num_Scale_Ts (N : Nat) : CallSound Try.prog (num_Scale_T N) := tab_cons (num_Mul_sound N) <| tab_nil _
def num_Scale (N : Nat) (a : Int) : Option (Int × Int × Unit) :=
  (num_Mul N a 10000).bind fun (r : Int × Int × Unit) =>
  some r
noncomputable def num_Scale_C (N : Nat) (a : Int) : Option (RT [(.int .i64), (.int .i64)]) := callBody DR Try.prog N (num_Scale_T N) num_Scale_H Try.f10 (bodyOf Try.f10) (RT [(.int .i64), (.int .i64)]) (encA [(.int .i64)] (a, ())) [] (kPure [(.int .i64), (.int .i64)])
theorem num_Scale_run (N : Nat) (a : Int) : num_Scale_C N a = num_Scale N a := by kernel_rfl
def num_Scale_entO (m : Int → Option (Int × Int × Unit)) : Ent := specEnt [(.int .i64)] [(.int .i64), (.int .i64)] fun (x : Els [(.int .i64)]) => m x.1
def num_Scale_ent (N : Nat) : Ent := num_Scale_entO (num_Scale N)
theorem num_Scale_sound (N : Nat) : EntSound Try.prog 10 (num_Scale_ent N) := specEnt_sound (num_Scale_Ts N) Try.func10 rfl (by kernel_rfl) fun (x : Els [(.int .i64)]) => num_Scale_run N x.1
def bits_Len64_H : FH := ⟨[], [], [], [], false, [], []⟩
noncomputable def bits_Len64_T (N : Nat) : CallT := tab []
theorem bits_Len64_Ts (N : Nat) : CallSound Try.prog (bits_Len64_T N) := tab_nil _
def bits_Len64 (N : Nat) (x : Int) : Option Int :=
  bif decide (x ≥ 4294967296) then
    bif decide ((iShr .u64 x (32 : Int)) ≥ 65536) then
      bif decide ((iShr .u64 (iShr .u64 x (32 : Int)) (16 : Int)) ≥ 256) then
        bif inR (IntKind.u8.wrap (iShr .u64 (iShr .u64 (iShr .u64 x (32 : Int)) (16 : Int)) (8 : Int))) lit_tab_0.length then
        bif inI64 (byteAt lit_tab_0 (IntKind.u8.wrap (iShr .u64 (iShr .u64 (iShr .u64 x (32 : Int)) (16 : Int)) (8 : Int)))) then
        bif inI64 (56 + (byteAt lit_tab_0 (IntKind.u8.wrap (iShr .u64 (iShr .u64 (iShr .u64 x (32 : Int)) (16 : Int)) (8 : Int))))) then
        some (56 + (byteAt lit_tab_0 (IntKind.u8.wrap (iShr .u64 (iShr .u64 (iShr .u64 x (32 : Int)) (16 : Int)) (8 : Int)))))
        else none
        else none
        else none
      else
        bif inR (IntKind.u8.wrap (iShr .u64 (iShr .u64 x (32 : Int)) (16 : Int))) lit_tab_0.length then
        bif inI64 (byteAt lit_tab_0 (IntKind.u8.wrap (iShr .u64 (iShr .u64 x (32 : Int)) (16 : Int)))) then
        bif inI64 (48 + (byteAt lit_tab_0 (IntKind.u8.wrap (iShr .u64 (iShr .u64 x (32 : Int)) (16 : Int))))) then
        some (48 + (byteAt lit_tab_0 (IntKind.u8.wrap (iShr .u64 (iShr .u64 x (32 : Int)) (16 : Int)))))
        else none
        else none
        else none
    else
      bif decide ((iShr .u64 x (32 : Int)) ≥ 256) then
        bif inR (IntKind.u8.wrap (iShr .u64 (iShr .u64 x (32 : Int)) (8 : Int))) lit_tab_0.length then
        bif inI64 (byteAt lit_tab_0 (IntKind.u8.wrap (iShr .u64 (iShr .u64 x (32 : Int)) (8 : Int)))) then
        bif inI64 (40 + (byteAt lit_tab_0 (IntKind.u8.wrap (iShr .u64 (iShr .u64 x (32 : Int)) (8 : Int))))) then
        some (40 + (byteAt lit_tab_0 (IntKind.u8.wrap (iShr .u64 (iShr .u64 x (32 : Int)) (8 : Int)))))
        else none
        else none
        else none
      else
        bif inR (IntKind.u8.wrap (iShr .u64 x (32 : Int))) lit_tab_0.length then
        bif inI64 (byteAt lit_tab_0 (IntKind.u8.wrap (iShr .u64 x (32 : Int)))) then
        bif inI64 (32 + (byteAt lit_tab_0 (IntKind.u8.wrap (iShr .u64 x (32 : Int))))) then
        some (32 + (byteAt lit_tab_0 (IntKind.u8.wrap (iShr .u64 x (32 : Int)))))
        else none
        else none
        else none
  else
    bif decide (x ≥ 65536) then
      bif decide ((iShr .u64 x (16 : Int)) ≥ 256) then
        bif inR (IntKind.u8.wrap (iShr .u64 (iShr .u64 x (16 : Int)) (8 : Int))) lit_tab_0.length then
        bif inI64 (byteAt lit_tab_0 (IntKind.u8.wrap (iShr .u64 (iShr .u64 x (16 : Int)) (8 : Int)))) then
        bif inI64 (24 + (byteAt lit_tab_0 (IntKind.u8.wrap (iShr .u64 (iShr .u64 x (16 : Int)) (8 : Int))))) then
        some (24 + (byteAt lit_tab_0 (IntKind.u8.wrap (iShr .u64 (iShr .u64 x (16 : Int)) (8 : Int)))))
        else none
        else none
        else none
      else
        bif inR (IntKind.u8.wrap (iShr .u64 x (16 : Int))) lit_tab_0.length then
        bif inI64 (byteAt lit_tab_0 (IntKind.u8.wrap (iShr .u64 x (16 : Int)))) then
        bif inI64 (16 + (byteAt lit_tab_0 (IntKind.u8.wrap (iShr .u64 x (16 : Int))))) then
        some (16 + (byteAt lit_tab_0 (IntKind.u8.wrap (iShr .u64 x (16 : Int)))))
        else none
        else none
        else none
    else
      bif decide (x ≥ 256) then
        bif inR (IntKind.u8.wrap (iShr .u64 x (8 : Int))) lit_tab_0.length then
        bif inI64 (byteAt lit_tab_0 (IntKind.u8.wrap (iShr .u64 x (8 : Int)))) then
        bif inI64 (8 + (byteAt lit_tab_0 (IntKind.u8.wrap (iShr .u64 x (8 : Int))))) then
        some (8 + (byteAt lit_tab_0 (IntKind.u8.wrap (iShr .u64 x (8 : Int)))))
        else none
        else none
        else none
      else
        bif inR (IntKind.u8.wrap x) lit_tab_0.length then
        bif inI64 (byteAt lit_tab_0 (IntKind.u8.wrap x)) then
        bif inI64 (0 + (byteAt lit_tab_0 (IntKind.u8.wrap x))) then
        some (0 + (byteAt lit_tab_0 (IntKind.u8.wrap x)))
        else none
        else none
        else none
noncomputable def bits_Len64_C (N : Nat) (x : Int) : Option (RT [(.int .i64)]) := callBody DR Try.prog N (bits_Len64_T N) bits_Len64_H Try.f81 (bodyOf Try.f81) (RT [(.int .i64)]) (encA [(.int .u64)] (x, ())) [] (kPure [(.int .i64)])
theorem bits_Len64_run (N : Nat) (x : Int) : bits_Len64_C N x = bits_Len64 N x := by kernel_rfl
def bits_Len64_entO (m : Int → Option Int) : Ent := specEnt [(.int .u64)] [(.int .i64)] fun (x : Els [(.int .u64)]) => m x.1
def bits_Len64_ent (N : Nat) : Ent := bits_Len64_entO (bits_Len64 N)
theorem bits_Len64_sound (N : Nat) : EntSound Try.prog 81 (bits_Len64_ent N) := specEnt_sound (bits_Len64_Ts N) Try.func81 rfl (by kernel_rfl) fun (x : Els [(.int .u64)]) => bits_Len64_run N x.1
def bits_LeadingZeros64_H : FH := ⟨[], [], [], [], false, [], []⟩
noncomputable def bits_LeadingZeros64_T (N : Nat) : CallT := tab [(81, bits_Len64_ent N)]
theorem bits_LeadingZeros64_Ts (N : Nat) : CallSound Try.prog (bits_LeadingZeros64_T N) := tab_cons (bits_Len64_sound N) <| tab_nil _
def bits_LeadingZeros64 (N : Nat) (x : Int) : Option Int :=
  (bits_Len64 N x).bind fun (r : Int) =>
  bif inI64 (64 - r) then
  some (64 - r)
  else none
noncomputable def bits_LeadingZeros64_C (N : Nat) (x : Int) : Option (RT [(.int .i64)]) := callBody DR Try.prog N (bits_LeadingZeros64_T N) bits_LeadingZeros64_H Try.f78 (bodyOf Try.f78) (RT [(.int .i64)]) (encA [(.int .u64)] (x, ())) [] (kPure [(.int .i64)])
theorem bits_LeadingZeros64_run (N : Nat) (x : Int) : bits_LeadingZeros64_C N x = bits_LeadingZeros64 N x := by kernel_rfl
def bits_LeadingZeros64_entO (m : Int → Option Int) : Ent := specEnt [(.int .u64)] [(.int .i64)] fun (x : Els [(.int .u64)]) => m x.1
def bits_LeadingZeros64_ent (N : Nat) : Ent := bits_LeadingZeros64_entO (bits_LeadingZeros64 N)
theorem bits_LeadingZeros64_sound (N : Nat) : EntSound Try.prog 78 (bits_LeadingZeros64_ent N) := specEnt_sound (bits_LeadingZeros64_Ts N) Try.func78 rfl (by kernel_rfl) fun (x : Els [(.int .u64)]) => bits_LeadingZeros64_run N x.1
def bits_Div64_H0 : LH := ⟨[(2, .int .u64), (8, .int .u64), (9, .int .u64), (10, .int .u64), (11, .int .u64), (13, .int .u64), (14, .int .u64), (15, .int .u64), (16, .int .u64)], [], []⟩
def bits_Div64_H1 : LH := ⟨[(2, .int .u64), (8, .int .u64), (9, .int .u64), (10, .int .u64), (14, .int .u64), (15, .int .u64), (16, .int .u64), (17, .int .u64), (18, .int .u64)], [], []⟩
def bits_Div64_H : FH := ⟨[bits_Div64_H0, bits_Div64_H1], [], [(6, ⟨7, 135, 0, [], []⟩)], [], false, [], []⟩
noncomputable def bits_Div64_T (N : Nat) : CallT := tab [(78, bits_LeadingZeros64_ent N)]
theorem bits_Div64_Ts (N : Nat) : CallSound Try.prog (bits_Div64_T N) := tab_cons (bits_LeadingZeros64_sound N) <| tab_nil _
noncomputable def bits_Div64_sc : Sc := scOf Try.prog bits_Div64_H
noncomputable def bits_Div64_cf (N : Nat) : Cfg := ⟨N, bits_Div64_T N, 0⟩
noncomputable def bits_Div64_fin (N : Nat) : Exit → List TV → List TOb → Option (Int × Int × Unit) := fin Try.prog 0 Try.f68.results.toList (kPure [(.int .u64), (.int .u64)])
def bits_Div64_E1 (y1 : Int) (s : Int) (yn1 : Int) (yn0 : Int) (un32 : Int) (un1 : Int) (un0 : Int) (e : Int × Int) : List TV := match e with
  | (q1, rhat) => frm 135 [(2, .int .u64 y1), (8, .int .u64 s), (9, .int .u64 yn1), (10, .int .u64 yn0), (11, .int .u64 un32), (13, .int .u64 un1), (14, .int .u64 un0), (15, .int .u64 q1), (16, .int .u64 rhat)]
def bits_Div64_S1 (y1 : Int) (s : Int) (yn1 : Int) (yn0 : Int) (un32 : Int) (un1 : Int) (un0 : Int) (e : Int × Int) : List TOb := match e with
  | (q1, rhat) => []
def bits_Div64_E4 (y1 : Int) (s : Int) (yn1 : Int) (yn0 : Int) (un0 : Int) (q1 : Int) (un212 : Int) (e : Int × Int) : List TV := match e with
  | (rhat3, q02) => frm 135 [(2, .int .u64 y1), (8, .int .u64 s), (9, .int .u64 yn1), (10, .int .u64 yn0), (14, .int .u64 un0), (15, .int .u64 q1), (16, .int .u64 rhat3), (17, .int .u64 un212), (18, .int .u64 q02)]
def bits_Div64_S4 (y1 : Int) (s : Int) (yn1 : Int) (yn0 : Int) (un0 : Int) (q1 : Int) (un212 : Int) (e : Int × Int) : List TOb := match e with
  | (rhat3, q02) => []
def bits_Div64_E3 (y1 : Int) (s : Int) (yn1 : Int) (yn0 : Int) (un0 : Int) (q12 : Int) (un211 : Int) (e : Int × Int) : List TV := match e with
  | (rhat2, q01) => frm 135 [(2, .int .u64 y1), (8, .int .u64 s), (9, .int .u64 yn1), (10, .int .u64 yn0), (14, .int .u64 un0), (15, .int .u64 q12), (16, .int .u64 rhat2), (17, .int .u64 un211), (18, .int .u64 q01)]
def bits_Div64_S3 (y1 : Int) (s : Int) (yn1 : Int) (yn0 : Int) (un0 : Int) (q12 : Int) (un211 : Int) (e : Int × Int) : List TOb := match e with
  | (rhat2, q01) => []
def bits_Div64_E2 (y1 : Int) (s : Int) (yn1 : Int) (yn0 : Int) (un0 : Int) (q11 : Int) (un21 : Int) (e : Int × Int) : List TV := match e with
  | (rhat1, q0) => frm 135 [(2, .int .u64 y1), (8, .int .u64 s), (9, .int .u64 yn1), (10, .int .u64 yn0), (14, .int .u64 un0), (15, .int .u64 q11), (16, .int .u64 rhat1), (17, .int .u64 un21), (18, .int .u64 q0)]
def bits_Div64_S2 (y1 : Int) (s : Int) (yn1 : Int) (yn0 : Int) (un0 : Int) (q11 : Int) (un21 : Int) (e : Int × Int) : List TOb := match e with
  | (rhat1, q0) => []
noncomputable def bits_Div64_R2 (N : Nat)  : (List TV → List TOb → Option (Int × Int × Unit)) → List TV → List TOb → Option (Int × Int × Unit) := rawL DR bits_Div64_sc (bits_Div64_cf N) (lopB (blkB (seqL (seqR (seqR (seqR (seqR (seqR (seqR (seqR (seqR (seqR (seqR (seqR (seqR (seqR (seqR (seqR (seqR (seqR (seqR (bodyOf Try.f68)))))))))))))))))))))) bits_Div64_H1 (bits_Div64_H.loops.drop 2) (kBlk 2 (kSeq DR bits_Div64_sc (bits_Div64_cf N) (seqR (seqR (seqR (seqR (seqR (seqR (seqR (seqR (seqR (seqR (seqR (seqR (seqR (seqR (seqR (seqR (seqR (seqR (seqR (bodyOf Try.f68)))))))))))))))))))) (bits_Div64_H.loops.drop 2) (bits_Div64_fin N)))
def bits_Div64_B2 (N : Nat) (y1 : Int) (s : Int) (yn1 : Int) (yn0 : Int) (un0 : Int) (q11 : Int) (un21 : Int)  (K1 : (Int × Int) → Option (Int × Int × Unit)) (e : Int × Int) : Option (Int × Int × Unit) :=
  match e with
  | (rhat1, q0) =>
    bif decide (q0 ≥ 4294967296) then
      bif decide ((IntKind.u64.wrap (rhat1 + yn1)) ≥ 4294967296) then
        bif !(decide (s < 0)) then
        some ((IntKind.u64.wrap ((IntKind.u64.wrap (q11 * 4294967296)) + (IntKind.u64.wrap (q0 - 1)))), (iShr .u64 (IntKind.u64.wrap ((IntKind.u64.wrap ((IntKind.u64.wrap (un21 * 4294967296)) + un0)) - (IntKind.u64.wrap ((IntKind.u64.wrap (q0 - 1)) * y1)))) s), ())
        else none
      else
        K1 ((IntKind.u64.wrap (rhat1 + yn1)), (IntKind.u64.wrap (q0 - 1)))
    else
      bif decide ((IntKind.u64.wrap (q0 * yn0)) > (IntKind.u64.wrap ((IntKind.u64.wrap (4294967296 * rhat1)) + un0))) then
        bif decide ((IntKind.u64.wrap (rhat1 + yn1)) ≥ 4294967296) then
          bif !(decide (s < 0)) then
          some ((IntKind.u64.wrap ((IntKind.u64.wrap (q11 * 4294967296)) + (IntKind.u64.wrap (q0 - 1)))), (iShr .u64 (IntKind.u64.wrap ((IntKind.u64.wrap ((IntKind.u64.wrap (un21 * 4294967296)) + un0)) - (IntKind.u64.wrap ((IntKind.u64.wrap (q0 - 1)) * y1)))) s), ())
          else none
        else
          K1 ((IntKind.u64.wrap (rhat1 + yn1)), (IntKind.u64.wrap (q0 - 1)))
      else
        bif !(decide (s < 0)) then
        some ((IntKind.u64.wrap ((IntKind.u64.wrap (q11 * 4294967296)) + q0)), (iShr .u64 (IntKind.u64.wrap ((IntKind.u64.wrap ((IntKind.u64.wrap (un21 * 4294967296)) + un0)) - (IntKind.u64.wrap (q0 * y1)))) s), ())
        else none
theorem bits_Div64_l2 (N : Nat) (y1 : Int) (s : Int) (yn1 : Int) (yn0 : Int) (un0 : Int) (q11 : Int) (un21 : Int)  (n : Nat) (e : Int × Int) : iterF (bits_Div64_R2 N ) n ((bits_Div64_E2 y1 s yn1 yn0 un0 q11 un21) e) ((bits_Div64_S2 y1 s yn1 yn0 un0 q11 un21) e) = iter (bits_Div64_B2 N y1 s yn1 yn0 un0 q11 un21 ) n e :=
  loop_iter (bits_Div64_E2 y1 s yn1 yn0 un0 q11 un21) (bits_Div64_S2 y1 s yn1 yn0 un0 q11 un21) (by intro K e; obtain ⟨rhat1, q0⟩ := e; kernel_rfl) n e
noncomputable def bits_Div64_R3 (N : Nat)  : (List TV → List TOb → Option (Int × Int × Unit)) → List TV → List TOb → Option (Int × Int × Unit) := rawL DR bits_Div64_sc (bits_Div64_cf N) (lopB (blkB (seqL (seqR (seqR (seqR (seqR (seqR (seqR (seqR (seqR (seqR (seqR (seqR (seqR (seqR (seqR (seqR (seqR (seqR (seqR (bodyOf Try.f68)))))))))))))))))))))) bits_Div64_H1 (bits_Div64_H.loops.drop 2) (kBlk 2 (kSeq DR bits_Div64_sc (bits_Div64_cf N) (seqR (seqR (seqR (seqR (seqR (seqR (seqR (seqR (seqR (seqR (seqR (seqR (seqR (seqR (seqR (seqR (seqR (seqR (seqR (bodyOf Try.f68)))))))))))))))))))) (bits_Div64_H.loops.drop 2) (bits_Div64_fin N)))
def bits_Div64_B3 (N : Nat) (y1 : Int) (s : Int) (yn1 : Int) (yn0 : Int) (un0 : Int) (q12 : Int) (un211 : Int)  (K1 : (Int × Int) → Option (Int × Int × Unit)) (e : Int × Int) : Option (Int × Int × Unit) :=
  match e with
  | (rhat2, q01) =>
    bif decide (q01 ≥ 4294967296) then
      bif decide ((IntKind.u64.wrap (rhat2 + yn1)) ≥ 4294967296) then
        bif !(decide (s < 0)) then
        some ((IntKind.u64.wrap ((IntKind.u64.wrap (q12 * 4294967296)) + (IntKind.u64.wrap (q01 - 1)))), (iShr .u64 (IntKind.u64.wrap ((IntKind.u64.wrap ((IntKind.u64.wrap (un211 * 4294967296)) + un0)) - (IntKind.u64.wrap ((IntKind.u64.wrap (q01 - 1)) * y1)))) s), ())
        else none
      else
        K1 ((IntKind.u64.wrap (rhat2 + yn1)), (IntKind.u64.wrap (q01 - 1)))
    else
      bif decide ((IntKind.u64.wrap (q01 * yn0)) > (IntKind.u64.wrap ((IntKind.u64.wrap (4294967296 * rhat2)) + un0))) then
        bif decide ((IntKind.u64.wrap (rhat2 + yn1)) ≥ 4294967296) then
          bif !(decide (s < 0)) then
          some ((IntKind.u64.wrap ((IntKind.u64.wrap (q12 * 4294967296)) + (IntKind.u64.wrap (q01 - 1)))), (iShr .u64 (IntKind.u64.wrap ((IntKind.u64.wrap ((IntKind.u64.wrap (un211 * 4294967296)) + un0)) - (IntKind.u64.wrap ((IntKind.u64.wrap (q01 - 1)) * y1)))) s), ())
          else none
        else
          K1 ((IntKind.u64.wrap (rhat2 + yn1)), (IntKind.u64.wrap (q01 - 1)))
      else
        bif !(decide (s < 0)) then
        some ((IntKind.u64.wrap ((IntKind.u64.wrap (q12 * 4294967296)) + q01)), (iShr .u64 (IntKind.u64.wrap ((IntKind.u64.wrap ((IntKind.u64.wrap (un211 * 4294967296)) + un0)) - (IntKind.u64.wrap (q01 * y1)))) s), ())
        else none
theorem bits_Div64_l3 (N : Nat) (y1 : Int) (s : Int) (yn1 : Int) (yn0 : Int) (un0 : Int) (q12 : Int) (un211 : Int)  (n : Nat) (e : Int × Int) : iterF (bits_Div64_R3 N ) n ((bits_Div64_E3 y1 s yn1 yn0 un0 q12 un211) e) ((bits_Div64_S3 y1 s yn1 yn0 un0 q12 un211) e) = iter (bits_Div64_B3 N y1 s yn1 yn0 un0 q12 un211 ) n e :=
  loop_iter (bits_Div64_E3 y1 s yn1 yn0 un0 q12 un211) (bits_Div64_S3 y1 s yn1 yn0 un0 q12 un211) (by intro K e; obtain ⟨rhat2, q01⟩ := e; kernel_rfl) n e
noncomputable def bits_Div64_R4 (N : Nat)  : (List TV → List TOb → Option (Int × Int × Unit)) → List TV → List TOb → Option (Int × Int × Unit) := rawL DR bits_Div64_sc (bits_Div64_cf N) (lopB (blkB (seqL (seqR (seqR (seqR (seqR (seqR (seqR (seqR (seqR (seqR (seqR (seqR (seqR (seqR (seqR (seqR (seqR (seqR (seqR (bodyOf Try.f68)))))))))))))))))))))) bits_Div64_H1 (bits_Div64_H.loops.drop 2) (kBlk 2 (kSeq DR bits_Div64_sc (bits_Div64_cf N) (seqR (seqR (seqR (seqR (seqR (seqR (seqR (seqR (seqR (seqR (seqR (seqR (seqR (seqR (seqR (seqR (seqR (seqR (seqR (bodyOf Try.f68)))))))))))))))))))) (bits_Div64_H.loops.drop 2) (bits_Div64_fin N)))
def bits_Div64_B4 (N : Nat) (y1 : Int) (s : Int) (yn1 : Int) (yn0 : Int) (un0 : Int) (q1 : Int) (un212 : Int)  (K1 : (Int × Int) → Option (Int × Int × Unit)) (e : Int × Int) : Option (Int × Int × Unit) :=
  match e with
  | (rhat3, q02) =>
    bif decide (q02 ≥ 4294967296) then
      bif decide ((IntKind.u64.wrap (rhat3 + yn1)) ≥ 4294967296) then
        bif !(decide (s < 0)) then
        some ((IntKind.u64.wrap ((IntKind.u64.wrap (q1 * 4294967296)) + (IntKind.u64.wrap (q02 - 1)))), (iShr .u64 (IntKind.u64.wrap ((IntKind.u64.wrap ((IntKind.u64.wrap (un212 * 4294967296)) + un0)) - (IntKind.u64.wrap ((IntKind.u64.wrap (q02 - 1)) * y1)))) s), ())
        else none
      else
        K1 ((IntKind.u64.wrap (rhat3 + yn1)), (IntKind.u64.wrap (q02 - 1)))
    else
      bif decide ((IntKind.u64.wrap (q02 * yn0)) > (IntKind.u64.wrap ((IntKind.u64.wrap (4294967296 * rhat3)) + un0))) then
        bif decide ((IntKind.u64.wrap (rhat3 + yn1)) ≥ 4294967296) then
          bif !(decide (s < 0)) then
          some ((IntKind.u64.wrap ((IntKind.u64.wrap (q1 * 4294967296)) + (IntKind.u64.wrap (q02 - 1)))), (iShr .u64 (IntKind.u64.wrap ((IntKind.u64.wrap ((IntKind.u64.wrap (un212 * 4294967296)) + un0)) - (IntKind.u64.wrap ((IntKind.u64.wrap (q02 - 1)) * y1)))) s), ())
          else none
        else
          K1 ((IntKind.u64.wrap (rhat3 + yn1)), (IntKind.u64.wrap (q02 - 1)))
      else
        bif !(decide (s < 0)) then
        some ((IntKind.u64.wrap ((IntKind.u64.wrap (q1 * 4294967296)) + q02)), (iShr .u64 (IntKind.u64.wrap ((IntKind.u64.wrap ((IntKind.u64.wrap (un212 * 4294967296)) + un0)) - (IntKind.u64.wrap (q02 * y1)))) s), ())
        else none
theorem bits_Div64_l4 (N : Nat) (y1 : Int) (s : Int) (yn1 : Int) (yn0 : Int) (un0 : Int) (q1 : Int) (un212 : Int)  (n : Nat) (e : Int × Int) : iterF (bits_Div64_R4 N ) n ((bits_Div64_E4 y1 s yn1 yn0 un0 q1 un212) e) ((bits_Div64_S4 y1 s yn1 yn0 un0 q1 un212) e) = iter (bits_Div64_B4 N y1 s yn1 yn0 un0 q1 un212 ) n e :=
  loop_iter (bits_Div64_E4 y1 s yn1 yn0 un0 q1 un212) (bits_Div64_S4 y1 s yn1 yn0 un0 q1 un212) (by intro K e; obtain ⟨rhat3, q02⟩ := e; kernel_rfl) n e
noncomputable def bits_Div64_R1 (N : Nat)  : (List TV → List TOb → Option (Int × Int × Unit)) → List TV → List TOb → Option (Int × Int × Unit) := rawL DR bits_Div64_sc (bits_Div64_cf N) (lopB (blkB (seqL (seqR (seqR (seqR (seqR (seqR (seqR (seqR (seqR (seqR (seqR (seqR (seqR (seqR (seqR (bodyOf Try.f68)))))))))))))))))) bits_Div64_H0 (bits_Div64_H.loops.drop 1) (kBlk 0 (kSeq DR bits_Div64_sc (bits_Div64_cf N) (seqR (seqR (seqR (seqR (seqR (seqR (seqR (seqR (seqR (seqR (seqR (seqR (seqR (seqR (seqR (bodyOf Try.f68)))))))))))))))) (bits_Div64_H.loops.drop 1) (bits_Div64_fin N)))
def bits_Div64_B1t (N : Nat) (y1 : Int) (s : Int) (yn1 : Int) (yn0 : Int) (un32 : Int) (un1 : Int) (un0 : Int)  (l2 : Int → Int → Int → Int → Int → Int → Int → (Int × Int) → Option (Int × Int × Unit)) (l3 : Int → Int → Int → Int → Int → Int → Int → (Int × Int) → Option (Int × Int × Unit)) (l4 : Int → Int → Int → Int → Int → Int → Int → (Int × Int) → Option (Int × Int × Unit)) (K0 : (Int × Int) → Option (Int × Int × Unit)) (e : Int × Int) : Option (Int × Int × Unit) :=
  match e with
  | (q1, rhat) =>
    bif decide (q1 ≥ 4294967296) then
      bif decide ((IntKind.u64.wrap (rhat + yn1)) ≥ 4294967296) then
        bif (decide (yn1 ≠ 0) && true) then
        l2 y1 s yn1 yn0 un0 (IntKind.u64.wrap (q1 - 1)) (IntKind.u64.wrap ((IntKind.u64.wrap ((IntKind.u64.wrap (un32 * 4294967296)) + un1)) - (IntKind.u64.wrap ((IntKind.u64.wrap (q1 - 1)) * y1)))) ((IntKind.u64.wrap ((IntKind.u64.wrap ((IntKind.u64.wrap ((IntKind.u64.wrap (un32 * 4294967296)) + un1)) - (IntKind.u64.wrap ((IntKind.u64.wrap (q1 - 1)) * y1)))) - (IntKind.u64.wrap ((IntKind.u64.wrap (Int.tdiv (IntKind.u64.wrap ((IntKind.u64.wrap ((IntKind.u64.wrap (un32 * 4294967296)) + un1)) - (IntKind.u64.wrap ((IntKind.u64.wrap (q1 - 1)) * y1)))) yn1)) * yn1)))), (IntKind.u64.wrap (Int.tdiv (IntKind.u64.wrap ((IntKind.u64.wrap ((IntKind.u64.wrap (un32 * 4294967296)) + un1)) - (IntKind.u64.wrap ((IntKind.u64.wrap (q1 - 1)) * y1)))) yn1)))
        else none
      else
        K0 ((IntKind.u64.wrap (q1 - 1)), (IntKind.u64.wrap (rhat + yn1)))
    else
      bif decide ((IntKind.u64.wrap (q1 * yn0)) > (IntKind.u64.wrap ((IntKind.u64.wrap (4294967296 * rhat)) + un1))) then
        bif decide ((IntKind.u64.wrap (rhat + yn1)) ≥ 4294967296) then
          bif (decide (yn1 ≠ 0) && true) then
          l3 y1 s yn1 yn0 un0 (IntKind.u64.wrap (q1 - 1)) (IntKind.u64.wrap ((IntKind.u64.wrap ((IntKind.u64.wrap (un32 * 4294967296)) + un1)) - (IntKind.u64.wrap ((IntKind.u64.wrap (q1 - 1)) * y1)))) ((IntKind.u64.wrap ((IntKind.u64.wrap ((IntKind.u64.wrap ((IntKind.u64.wrap (un32 * 4294967296)) + un1)) - (IntKind.u64.wrap ((IntKind.u64.wrap (q1 - 1)) * y1)))) - (IntKind.u64.wrap ((IntKind.u64.wrap (Int.tdiv (IntKind.u64.wrap ((IntKind.u64.wrap ((IntKind.u64.wrap (un32 * 4294967296)) + un1)) - (IntKind.u64.wrap ((IntKind.u64.wrap (q1 - 1)) * y1)))) yn1)) * yn1)))), (IntKind.u64.wrap (Int.tdiv (IntKind.u64.wrap ((IntKind.u64.wrap ((IntKind.u64.wrap (un32 * 4294967296)) + un1)) - (IntKind.u64.wrap ((IntKind.u64.wrap (q1 - 1)) * y1)))) yn1)))
          else none
        else
          K0 ((IntKind.u64.wrap (q1 - 1)), (IntKind.u64.wrap (rhat + yn1)))
      else
        bif (decide (yn1 ≠ 0) && true) then
        l4 y1 s yn1 yn0 un0 q1 (IntKind.u64.wrap ((IntKind.u64.wrap ((IntKind.u64.wrap (un32 * 4294967296)) + un1)) - (IntKind.u64.wrap (q1 * y1)))) ((IntKind.u64.wrap ((IntKind.u64.wrap ((IntKind.u64.wrap ((IntKind.u64.wrap (un32 * 4294967296)) + un1)) - (IntKind.u64.wrap (q1 * y1)))) - (IntKind.u64.wrap ((IntKind.u64.wrap (Int.tdiv (IntKind.u64.wrap ((IntKind.u64.wrap ((IntKind.u64.wrap (un32 * 4294967296)) + un1)) - (IntKind.u64.wrap (q1 * y1)))) yn1)) * yn1)))), (IntKind.u64.wrap (Int.tdiv (IntKind.u64.wrap ((IntKind.u64.wrap ((IntKind.u64.wrap (un32 * 4294967296)) + un1)) - (IntKind.u64.wrap (q1 * y1)))) yn1)))
        else none
def bits_Div64_B1 (N : Nat) (y1 : Int) (s : Int) (yn1 : Int) (yn0 : Int) (un32 : Int) (un1 : Int) (un0 : Int)  (K0 : (Int × Int) → Option (Int × Int × Unit)) (e : Int × Int) : Option (Int × Int × Unit) := bits_Div64_B1t N y1 s yn1 yn0 un32 un1 un0  (fun (y1 : Int) (s : Int) (yn1 : Int) (yn0 : Int) (un0 : Int) (q11 : Int) (un21 : Int) (e : Int × Int) => iter (bits_Div64_B2 N y1 s yn1 yn0 un0 q11 un21) N e) (fun (y1 : Int) (s : Int) (yn1 : Int) (yn0 : Int) (un0 : Int) (q12 : Int) (un211 : Int) (e : Int × Int) => iter (bits_Div64_B3 N y1 s yn1 yn0 un0 q12 un211) N e) (fun (y1 : Int) (s : Int) (yn1 : Int) (yn0 : Int) (un0 : Int) (q1 : Int) (un212 : Int) (e : Int × Int) => iter (bits_Div64_B4 N y1 s yn1 yn0 un0 q1 un212) N e) K0 e
theorem bits_Div64_l1 (N : Nat) (y1 : Int) (s : Int) (yn1 : Int) (yn0 : Int) (un32 : Int) (un1 : Int) (un0 : Int)  (n : Nat) (e : Int × Int) : iterF (bits_Div64_R1 N ) n ((bits_Div64_E1 y1 s yn1 yn0 un32 un1 un0) e) ((bits_Div64_S1 y1 s yn1 yn0 un32 un1 un0) e) = iter (bits_Div64_B1 N y1 s yn1 yn0 un32 un1 un0 ) n e :=
  loop_iter (bits_Div64_E1 y1 s yn1 yn0 un32 un1 un0) (bits_Div64_S1 y1 s yn1 yn0 un32 un1 un0) (by
    intro K e
    have h : (bits_Div64_R1 N ) K ((bits_Div64_E1 y1 s yn1 yn0 un32 un1 un0) e) ((bits_Div64_S1 y1 s yn1 yn0 un32 un1 un0) e) = bits_Div64_B1t N y1 s yn1 yn0 un32 un1 un0  (fun (y1 : Int) (s : Int) (yn1 : Int) (yn0 : Int) (un0 : Int) (q11 : Int) (un21 : Int) (e : Int × Int) => iterF (bits_Div64_R2 N ) N (bits_Div64_E2 y1 s yn1 yn0 un0 q11 un21 e) (bits_Div64_S2 y1 s yn1 yn0 un0 q11 un21 e)) (fun (y1 : Int) (s : Int) (yn1 : Int) (yn0 : Int) (un0 : Int) (q12 : Int) (un211 : Int) (e : Int × Int) => iterF (bits_Div64_R3 N ) N (bits_Div64_E3 y1 s yn1 yn0 un0 q12 un211 e) (bits_Div64_S3 y1 s yn1 yn0 un0 q12 un211 e)) (fun (y1 : Int) (s : Int) (yn1 : Int) (yn0 : Int) (un0 : Int) (q1 : Int) (un212 : Int) (e : Int × Int) => iterF (bits_Div64_R4 N ) N (bits_Div64_E4 y1 s yn1 yn0 un0 q1 un212 e) (bits_Div64_S4 y1 s yn1 yn0 un0 q1 un212 e)) (fun e => K ((bits_Div64_E1 y1 s yn1 yn0 un32 un1 un0) e) ((bits_Div64_S1 y1 s yn1 yn0 un32 un1 un0) e)) e := by obtain ⟨q1, rhat⟩ := e; kernel_rfl
    rw [h]
    simp only [bits_Div64_B1, bits_Div64_l2, bits_Div64_l3, bits_Div64_l4] <;> rfl) n e
def bits_Div64_t (N : Nat) (hi : Int) (lo : Int) (y : Int) (l1 : Int → Int → Int → Int → Int → Int → Int → (Int × Int) → Option (Int × Int × Unit)) : Option (Int × Int × Unit) :=
  bif (y == 0) then none else
  bif decide (y ≤ hi) then none else
  bif (hi == 0) then
    bif (decide (y ≠ 0) && true) then
    bif decide (y ≠ 0) then
    some ((IntKind.u64.wrap (Int.tdiv lo y)), Int.tmod lo y, ())
    else none
    else none
  else
    (bits_LeadingZeros64 N y).bind fun (r : Int) =>
    bif !(decide ((IntKind.u64.wrap r) < 0)) then
    bif !(decide ((IntKind.u64.wrap r) < 0)) then
    bif !(decide ((IntKind.u64.wrap (64 - (IntKind.u64.wrap r))) < 0)) then
    bif !(decide ((IntKind.u64.wrap r) < 0)) then
    bif (decide ((iShr .u64 (iShl .u64 y (IntKind.u64.wrap r)) (32 : Int)) ≠ 0) && true) then
    l1 (iShl .u64 y (IntKind.u64.wrap r)) (IntKind.u64.wrap r) (iShr .u64 (iShl .u64 y (IntKind.u64.wrap r)) (32 : Int)) (iBits .and .u64 (iShl .u64 y (IntKind.u64.wrap r)) 4294967295) (iBits .or .u64 (iShl .u64 hi (IntKind.u64.wrap r)) (iShr .u64 lo (IntKind.u64.wrap (64 - (IntKind.u64.wrap r))))) (iShr .u64 (iShl .u64 lo (IntKind.u64.wrap r)) (32 : Int)) (iBits .and .u64 (iShl .u64 lo (IntKind.u64.wrap r)) 4294967295) ((IntKind.u64.wrap (Int.tdiv (iBits .or .u64 (iShl .u64 hi (IntKind.u64.wrap r)) (iShr .u64 lo (IntKind.u64.wrap (64 - (IntKind.u64.wrap r))))) (iShr .u64 (iShl .u64 y (IntKind.u64.wrap r)) (32 : Int)))), (IntKind.u64.wrap ((iBits .or .u64 (iShl .u64 hi (IntKind.u64.wrap r)) (iShr .u64 lo (IntKind.u64.wrap (64 - (IntKind.u64.wrap r))))) - (IntKind.u64.wrap ((IntKind.u64.wrap (Int.tdiv (iBits .or .u64 (iShl .u64 hi (IntKind.u64.wrap r)) (iShr .u64 lo (IntKind.u64.wrap (64 - (IntKind.u64.wrap r))))) (iShr .u64 (iShl .u64 y (IntKind.u64.wrap r)) (32 : Int)))) * (iShr .u64 (iShl .u64 y (IntKind.u64.wrap r)) (32 : Int)))))))
    else none
    else none
    else none
    else none
    else none
def bits_Div64 (N : Nat) (hi : Int) (lo : Int) (y : Int) : Option (Int × Int × Unit) := bits_Div64_t N hi lo y (fun (y1 : Int) (s : Int) (yn1 : Int) (yn0 : Int) (un32 : Int) (un1 : Int) (un0 : Int) (e : Int × Int) => iter (bits_Div64_B1 N y1 s yn1 yn0 un32 un1 un0) N e)
noncomputable def bits_Div64_C (N : Nat) (hi : Int) (lo : Int) (y : Int) : Option (RT [(.int .u64), (.int .u64)]) := callBody DR Try.prog N (bits_Div64_T N) bits_Div64_H Try.f68 (bodyOf Try.f68) (RT [(.int .u64), (.int .u64)]) (encA [(.int .u64), (.int .u64), (.int .u64)] (hi, lo, y, ())) [] (kPure [(.int .u64), (.int .u64)])
theorem bits_Div64_run (N : Nat) (hi : Int) (lo : Int) (y : Int) : bits_Div64_C N hi lo y = bits_Div64 N hi lo y := by
  have h : bits_Div64_C N hi lo y = bits_Div64_t N hi lo y (fun (y1 : Int) (s : Int) (yn1 : Int) (yn0 : Int) (un32 : Int) (un1 : Int) (un0 : Int) (e : Int × Int) => iterF (bits_Div64_R1 N ) N (bits_Div64_E1 y1 s yn1 yn0 un32 un1 un0 e) (bits_Div64_S1 y1 s yn1 yn0 un32 un1 un0 e)) := by kernel_rfl
  rw [h]
  simp only [bits_Div64, bits_Div64_l1] <;> rfl
def bits_Div64_entO (m : Int → Int → Int → Option (Int × Int × Unit)) : Ent := specEnt [(.int .u64), (.int .u64), (.int .u64)] [(.int .u64), (.int .u64)] fun (x : Els [(.int .u64), (.int .u64), (.int .u64)]) => m x.1 x.2.1 x.2.2.1
def bits_Div64_ent (N : Nat) : Ent := bits_Div64_entO (bits_Div64 N)
theorem bits_Div64_sound (N : Nat) : EntSound Try.prog 68 (bits_Div64_ent N) := specEnt_sound (bits_Div64_Ts N) Try.func68 rfl (by kernel_rfl) fun (x : Els [(.int .u64), (.int .u64), (.int .u64)]) => bits_Div64_run N x.1 x.2.1 x.2.2.1
noncomputable def num_over_1_i_T (N : Nat) : CallT := tab [(42, num_signed_ent N)]
theorem num_over_1_i_Ts (N : Nat) : CallSound Try.prog (num_over_1_i_T N) := tab_cons (num_signed_sound N) <| tab_nil _
noncomputable def num_over_1_i_ent (N : Nat) : Ent := inlEnt Try.prog N (num_over_1_i_T N) ⟨[], [], [], [], false, [], []⟩ Try.f67 (bodyOf Try.f67)
theorem num_over_1_i_sound (N : Nat) : EntSound Try.prog 67 (num_over_1_i_ent N) := inlEnt_sound (num_over_1_i_Ts N) Try.func67 rfl (by kernel_rfl)
def num_over_H : FH := ⟨[], [], [(1, ⟨9, 61, 0, [], []⟩)], [], false, [67], []⟩
noncomputable def num_over_T (N : Nat) : CallT := tab [(41, num_size_ent N), (40, bits_Mul64_ent N), (68, bits_Div64_ent N), (67, num_over_1_i_ent N)]
theorem num_over_Ts (N : Nat) : CallSound Try.prog (num_over_T N) := tab_cons (num_size_sound N) <| tab_cons (bits_Mul64_sound N) <| tab_cons (bits_Div64_sound N) <| tab_cons (num_over_1_i_sound N) <| tab_nil _
def num_over (N : Nat) (a : Int) (b : Int) (d : Int) : Option (Int × Int × Unit) :=
  (num_size N a).bind fun (r : Int) =>
  (num_size N b).bind fun (r1 : Int) =>
  (bits_Mul64 N r r1).bind fun (r2 : Int × Int × Unit) =>
  (num_size N d).bind fun (r3 : Int) =>
  bif decide (r2.1 ≥ r3) then
    some (0, 9, ())
  else
    (bits_Div64 N r2.1 r2.2.1 r3).bind fun (r4 : Int × Int × Unit) =>
    bif decide (r4.2.1 > (IntKind.u64.wrap (r3 - r4.2.1))) then
      bif ((IntKind.u64.wrap (r4.1 + 1)) == 0) then
        some (0, 9, ())
      else
        (num_signed N (!((!((decide (a < 0)) == (decide (b < 0)))) == (decide (d < 0)))) 0 (IntKind.u64.wrap (r4.1 + 1))).bind fun (r5 : Int × Int × Unit) =>
        some r5
    else
      bif (r4.2.1 == (IntKind.u64.wrap (r3 - r4.2.1))) then
        bif ((iBits .and .u64 r4.1 1) == 1) then
          bif ((IntKind.u64.wrap (r4.1 + 1)) == 0) then
            some (0, 9, ())
          else
            (num_signed N (!((!((decide (a < 0)) == (decide (b < 0)))) == (decide (d < 0)))) 0 (IntKind.u64.wrap (r4.1 + 1))).bind fun (r6 : Int × Int × Unit) =>
            some r6
        else
          (num_signed N (!((!((decide (a < 0)) == (decide (b < 0)))) == (decide (d < 0)))) 0 r4.1).bind fun (r7 : Int × Int × Unit) =>
          some r7
      else
        (num_signed N (!((!((decide (a < 0)) == (decide (b < 0)))) == (decide (d < 0)))) 0 r4.1).bind fun (r8 : Int × Int × Unit) =>
        some r8
noncomputable def num_over_C (N : Nat) (a : Int) (b : Int) (d : Int) : Option (RT [(.int .i64), (.int .i64)]) := callBody DR Try.prog N (num_over_T N) num_over_H Try.f43 (bodyOf Try.f43) (RT [(.int .i64), (.int .i64)]) (encA [(.int .i64), (.int .i64), (.int .i64)] (a, b, d, ())) [] (kPure [(.int .i64), (.int .i64)])
theorem num_over_run (N : Nat) (a : Int) (b : Int) (d : Int) : num_over_C N a b d = num_over N a b d := by kernel_rfl
def num_over_entO (m : Int → Int → Int → Option (Int × Int × Unit)) : Ent := specEnt [(.int .i64), (.int .i64), (.int .i64)] [(.int .i64), (.int .i64)] fun (x : Els [(.int .i64), (.int .i64), (.int .i64)]) => m x.1 x.2.1 x.2.2.1
def num_over_ent (N : Nat) : Ent := num_over_entO (num_over N)
theorem num_over_sound (N : Nat) : EntSound Try.prog 43 (num_over_ent N) := specEnt_sound (num_over_Ts N) Try.func43 rfl (by kernel_rfl) fun (x : Els [(.int .i64), (.int .i64), (.int .i64)]) => num_over_run N x.1 x.2.1 x.2.2.1
def num_MulDec_H : FH := ⟨[], [], [], [], false, [], []⟩
noncomputable def num_MulDec_T (N : Nat) : CallT := tab [(43, num_over_ent N)]
theorem num_MulDec_Ts (N : Nat) : CallSound Try.prog (num_MulDec_T N) := tab_cons (num_over_sound N) <| tab_nil _
def num_MulDec (N : Nat) (a : Int) (b : Int) : Option (Int × Int × Unit) :=
  (num_over N a b 10000).bind fun (r : Int × Int × Unit) =>
  some r
noncomputable def num_MulDec_C (N : Nat) (a : Int) (b : Int) : Option (RT [(.int .i64), (.int .i64)]) := callBody DR Try.prog N (num_MulDec_T N) num_MulDec_H Try.f11 (bodyOf Try.f11) (RT [(.int .i64), (.int .i64)]) (encA [(.int .i64), (.int .i64)] (a, b, ())) [] (kPure [(.int .i64), (.int .i64)])
theorem num_MulDec_run (N : Nat) (a : Int) (b : Int) : num_MulDec_C N a b = num_MulDec N a b := by kernel_rfl
def num_MulDec_entO (m : Int → Int → Option (Int × Int × Unit)) : Ent := specEnt [(.int .i64), (.int .i64)] [(.int .i64), (.int .i64)] fun (x : Els [(.int .i64), (.int .i64)]) => m x.1 x.2.1
def num_MulDec_ent (N : Nat) : Ent := num_MulDec_entO (num_MulDec N)
theorem num_MulDec_sound (N : Nat) : EntSound Try.prog 11 (num_MulDec_ent N) := specEnt_sound (num_MulDec_Ts N) Try.func11 rfl (by kernel_rfl) fun (x : Els [(.int .i64), (.int .i64)]) => num_MulDec_run N x.1 x.2.1
def r1_up_H0 : LH := ⟨[(0, .lst (.int .i64)), (1, .lst (.int .i64)), (5, .own (.int .i64) 505 3 1), (6, .int .i64), (7, .int .i64)], [], []⟩
def r1_up_H : FH := ⟨[r1_up_H0], [], [], [], false, [], []⟩
noncomputable def r1_up_T (N : Nat) : CallT := tab []
theorem r1_up_Ts (N : Nat) : CallSound Try.prog (r1_up_T N) := tab_nil _
noncomputable def r1_up_sc : Sc := scOf Try.prog r1_up_H
noncomputable def r1_up_cf (N : Nat) : Cfg := ⟨N, r1_up_T N, 0⟩
noncomputable def r1_up_fin (N : Nat) : Exit → List TV → List TOb → Option (List Int) := fin Try.prog 0 Try.f46.results.toList (kPure [(.list (.int .i64))])
def r1_up_E1 (a : List Int) (b : List Int) (e : List Int × Int × Int) : List TV := match e with
  | (out, more, i) => frm 52 [(0, .tl (.int .i64) a .unk), (1, .tl (.int .i64) b .unk), (5, .tl (.int .i64) out (.own 505 3 1)), (6, .int .i64 more), (7, .int .i64 i)]
def r1_up_S1 (a : List Int) (b : List Int) (e : List Int × Int × Int) : List TOb := match e with
  | (out, more, i) => []
noncomputable def r1_up_R1 (N : Nat)  : (List TV → List TOb → Option (List Int)) → List TV → List TOb → Option (List Int) := rawL DR r1_up_sc (r1_up_cf N) (lopB (blkB (seqR (seqL (seqR (seqR (seqR (bodyOf Try.f46)))))))) r1_up_H0 (r1_up_H.loops.drop 1) (kBlk 0 (kSeq DR r1_up_sc (r1_up_cf N) (seqR (seqR (seqR (seqR (bodyOf Try.f46))))) (r1_up_H.loops.drop 1) (r1_up_fin N)))
def r1_up_B1 (N : Nat) (a : List Int) (b : List Int)  (K0 : (List Int × Int × Int) → Option (List Int)) (e : List Int × Int × Int) : Option (List Int) :=
  match e with
  | (out, more, i) =>
    bif decide (i < (a.length : Int)) then
      bif decide (i < (a.length : Int)) then
        bif inR i a.length then
        bif inI64 (more + (nthD a i 0)) then
        bif decide (i < (b.length : Int)) then
          bif inR i b.length then
          bif inI64 ((more + (nthD a i 0)) + (nthD b i 0)) then
          bif fits (out.length + [Int.tmod ((more + (nthD a i 0)) + (nthD b i 0)) 10000].length) 17592186044416 then
          bif inI64 (Int.tdiv ((more + (nthD a i 0)) + (nthD b i 0)) 10000) then
          bif inI64 (i + 1) then
          K0 ((out ++ [Int.tmod ((more + (nthD a i 0)) + (nthD b i 0)) 10000]), Int.tdiv ((more + (nthD a i 0)) + (nthD b i 0)) 10000, i + 1)
          else none
          else none
          else none
          else none
          else none
        else
          bif fits (out.length + [Int.tmod (more + (nthD a i 0)) 10000].length) 17592186044416 then
          bif inI64 (Int.tdiv (more + (nthD a i 0)) 10000) then
          bif inI64 (i + 1) then
          K0 ((out ++ [Int.tmod (more + (nthD a i 0)) 10000]), Int.tdiv (more + (nthD a i 0)) 10000, i + 1)
          else none
          else none
          else none
        else none
        else none
      else
        bif decide (i < (b.length : Int)) then
          bif inR i b.length then
          bif inI64 (more + (nthD b i 0)) then
          bif fits (out.length + [Int.tmod (more + (nthD b i 0)) 10000].length) 17592186044416 then
          bif inI64 (Int.tdiv (more + (nthD b i 0)) 10000) then
          bif inI64 (i + 1) then
          K0 ((out ++ [Int.tmod (more + (nthD b i 0)) 10000]), Int.tdiv (more + (nthD b i 0)) 10000, i + 1)
          else none
          else none
          else none
          else none
          else none
        else
          bif fits (out.length + [Int.tmod more 10000].length) 17592186044416 then
          bif inI64 (Int.tdiv more 10000) then
          bif inI64 (i + 1) then
          K0 ((out ++ [Int.tmod more 10000]), Int.tdiv more 10000, i + 1)
          else none
          else none
          else none
    else
      bif decide (i < (b.length : Int)) then
        bif decide (i < (a.length : Int)) then
          bif inR i a.length then
          bif inI64 (more + (nthD a i 0)) then
          bif decide (i < (b.length : Int)) then
            bif inR i b.length then
            bif inI64 ((more + (nthD a i 0)) + (nthD b i 0)) then
            bif fits (out.length + [Int.tmod ((more + (nthD a i 0)) + (nthD b i 0)) 10000].length) 17592186044416 then
            bif inI64 (Int.tdiv ((more + (nthD a i 0)) + (nthD b i 0)) 10000) then
            bif inI64 (i + 1) then
            K0 ((out ++ [Int.tmod ((more + (nthD a i 0)) + (nthD b i 0)) 10000]), Int.tdiv ((more + (nthD a i 0)) + (nthD b i 0)) 10000, i + 1)
            else none
            else none
            else none
            else none
            else none
          else
            bif fits (out.length + [Int.tmod (more + (nthD a i 0)) 10000].length) 17592186044416 then
            bif inI64 (Int.tdiv (more + (nthD a i 0)) 10000) then
            bif inI64 (i + 1) then
            K0 ((out ++ [Int.tmod (more + (nthD a i 0)) 10000]), Int.tdiv (more + (nthD a i 0)) 10000, i + 1)
            else none
            else none
            else none
          else none
          else none
        else
          bif decide (i < (b.length : Int)) then
            bif inR i b.length then
            bif inI64 (more + (nthD b i 0)) then
            bif fits (out.length + [Int.tmod (more + (nthD b i 0)) 10000].length) 17592186044416 then
            bif inI64 (Int.tdiv (more + (nthD b i 0)) 10000) then
            bif inI64 (i + 1) then
            K0 ((out ++ [Int.tmod (more + (nthD b i 0)) 10000]), Int.tdiv (more + (nthD b i 0)) 10000, i + 1)
            else none
            else none
            else none
            else none
            else none
          else
            bif fits (out.length + [Int.tmod more 10000].length) 17592186044416 then
            bif inI64 (Int.tdiv more 10000) then
            bif inI64 (i + 1) then
            K0 ((out ++ [Int.tmod more 10000]), Int.tdiv more 10000, i + 1)
            else none
            else none
            else none
      else
        bif decide (more > 0) then
          bif decide (i < (a.length : Int)) then
            bif inR i a.length then
            bif inI64 (more + (nthD a i 0)) then
            bif decide (i < (b.length : Int)) then
              bif inR i b.length then
              bif inI64 ((more + (nthD a i 0)) + (nthD b i 0)) then
              bif fits (out.length + [Int.tmod ((more + (nthD a i 0)) + (nthD b i 0)) 10000].length) 17592186044416 then
              bif inI64 (Int.tdiv ((more + (nthD a i 0)) + (nthD b i 0)) 10000) then
              bif inI64 (i + 1) then
              K0 ((out ++ [Int.tmod ((more + (nthD a i 0)) + (nthD b i 0)) 10000]), Int.tdiv ((more + (nthD a i 0)) + (nthD b i 0)) 10000, i + 1)
              else none
              else none
              else none
              else none
              else none
            else
              bif fits (out.length + [Int.tmod (more + (nthD a i 0)) 10000].length) 17592186044416 then
              bif inI64 (Int.tdiv (more + (nthD a i 0)) 10000) then
              bif inI64 (i + 1) then
              K0 ((out ++ [Int.tmod (more + (nthD a i 0)) 10000]), Int.tdiv (more + (nthD a i 0)) 10000, i + 1)
              else none
              else none
              else none
            else none
            else none
          else
            bif decide (i < (b.length : Int)) then
              bif inR i b.length then
              bif inI64 (more + (nthD b i 0)) then
              bif fits (out.length + [Int.tmod (more + (nthD b i 0)) 10000].length) 17592186044416 then
              bif inI64 (Int.tdiv (more + (nthD b i 0)) 10000) then
              bif inI64 (i + 1) then
              K0 ((out ++ [Int.tmod (more + (nthD b i 0)) 10000]), Int.tdiv (more + (nthD b i 0)) 10000, i + 1)
              else none
              else none
              else none
              else none
              else none
            else
              bif fits (out.length + [Int.tmod more 10000].length) 17592186044416 then
              bif inI64 (Int.tdiv more 10000) then
              bif inI64 (i + 1) then
              K0 ((out ++ [Int.tmod more 10000]), Int.tdiv more 10000, i + 1)
              else none
              else none
              else none
        else
          some out
theorem r1_up_l1 (N : Nat) (a : List Int) (b : List Int)  (n : Nat) (e : List Int × Int × Int) : iterF (r1_up_R1 N ) n ((r1_up_E1 a b) e) ((r1_up_S1 a b) e) = iter (r1_up_B1 N a b ) n e :=
  loop_iter (r1_up_E1 a b) (r1_up_S1 a b) (by intro K e; obtain ⟨out, more, i⟩ := e; kernel_rfl) n e
def r1_up_t (N : Nat) (a : List Int) (b : List Int) (l1 : (List Int) → (List Int) → (List Int × Int × Int) → Option (List Int)) : Option (List Int) :=
  l1 a b ([], 0, 0)
def r1_up (N : Nat) (a : List Int) (b : List Int) : Option (List Int) := r1_up_t N a b (fun (a : List Int) (b : List Int) (e : List Int × Int × Int) => iter (r1_up_B1 N a b) N e)
noncomputable def r1_up_C (N : Nat) (a : List Int) (b : List Int) : Option (RT [(.list (.int .i64))]) := callBody DR Try.prog N (r1_up_T N) r1_up_H Try.f46 (bodyOf Try.f46) (RT [(.list (.int .i64))]) (encA [(.list (.int .i64)), (.list (.int .i64))] (a, b, ())) [] (kPure [(.list (.int .i64))])
theorem r1_up_run (N : Nat) (a : List Int) (b : List Int) : r1_up_C N a b = r1_up N a b := by
  have h : r1_up_C N a b = r1_up_t N a b (fun (a : List Int) (b : List Int) (e : List Int × Int × Int) => iterF (r1_up_R1 N ) N (r1_up_E1 a b e) (r1_up_S1 a b e)) := by kernel_rfl
  rw [h]
  simp only [r1_up, r1_up_l1] <;> rfl
def r1_up_entO (m : (List Int) → (List Int) → Option (List Int)) : Ent := specEnt [(.list (.int .i64)), (.list (.int .i64))] [(.list (.int .i64))] fun (x : Els [(.list (.int .i64)), (.list (.int .i64))]) => m x.1 x.2.1
def r1_up_ent (N : Nat) : Ent := r1_up_entO (r1_up N)
theorem r1_up_sound (N : Nat) : EntSound Try.prog 46 (r1_up_ent N) := specEnt_sound (r1_up_Ts N) Try.func46 rfl (by kernel_rfl) fun (x : Els [(.list (.int .i64)), (.list (.int .i64))]) => r1_up_run N x.1 x.2.1
def r1_trim_H0 : LH := ⟨[(0, .bool), (1, .lst (.int .i64)), (4, .asis)], [], [.cells [.bool, .lst (.int .i64)]]⟩
def r1_trim_H : FH := ⟨[r1_trim_H0], [], [], [], false, [], []⟩
noncomputable def r1_trim_T (N : Nat) : CallT := tab []
theorem r1_trim_Ts (N : Nat) : CallSound Try.prog (r1_trim_T N) := tab_nil _
noncomputable def r1_trim_sc : Sc := scOf Try.prog r1_trim_H
noncomputable def r1_trim_cf (N : Nat) : Cfg := ⟨N, r1_trim_T N, 0⟩
noncomputable def r1_trim_fin (N : Nat) : Exit → List TV → List TOb → Option T_N1 := fin Try.prog 0 Try.f45.results.toList (kPure [t_N1])
def r1_trim_E1 (neg : Bool) (t4_Neg : Bool) (t4_D : List Int) (e : List Int) : List TV := match e with
  | d1 => frm 30 [(0, .bool neg), (1, .tl (.int .i64) d1 .unk), (4, .ref 0 0)]
def r1_trim_S1 (neg : Bool) (t4_Neg : Bool) (t4_D : List Int) (e : List Int) : List TOb := match e with
  | d1 => [.cells [.bool t4_Neg, .tl (.int .i64) t4_D .unk] 24 true]
noncomputable def r1_trim_R1 (N : Nat)  : (List TV → List TOb → Option T_N1) → List TV → List TOb → Option T_N1 := rawL DR r1_trim_sc (r1_trim_cf N) (lopB (blkB (seqL (seqR (bodyOf Try.f45))))) r1_trim_H0 (r1_trim_H.loops.drop 1) (kBlk 0 (kSeq DR r1_trim_sc (r1_trim_cf N) (seqR (seqR (bodyOf Try.f45))) (r1_trim_H.loops.drop 1) (r1_trim_fin N)))
def r1_trim_B1 (N : Nat) (neg : Bool) (t4_Neg : Bool) (t4_D : List Int)  (K0 : (List Int) → Option T_N1) (e : List Int) : Option T_N1 :=
  match e with
  | d1 =>
    bif decide ((d1.length : Int) > 0) then
      bif inI64 ((d1.length : Int) - 1) then
      bif inR ((d1.length : Int) - 1) d1.length then
      bif ((nthD d1 ((d1.length : Int) - 1) 0) == 0) then
        bif inI64 ((d1.length : Int) - 1) then
        bif upTo ((d1.length : Int) - 1) d1.length then
        K0 (d1.take ((d1.length : Int) - 1).toNat)
        else none
        else none
      else
        bif neg then
          some (decide ((d1.length : Int) > 0), d1, ())
        else
          some (false, d1, ())
      else none
      else none
    else
      bif neg then
        some (decide ((d1.length : Int) > 0), d1, ())
      else
        some (false, d1, ())
theorem r1_trim_l1 (N : Nat) (neg : Bool) (t4_Neg : Bool) (t4_D : List Int)  (n : Nat) (e : List Int) : iterF (r1_trim_R1 N ) n ((r1_trim_E1 neg t4_Neg t4_D) e) ((r1_trim_S1 neg t4_Neg t4_D) e) = iter (r1_trim_B1 N neg t4_Neg t4_D ) n e :=
  loop_iter (r1_trim_E1 neg t4_Neg t4_D) (r1_trim_S1 neg t4_Neg t4_D) (by intro K e; kernel_rfl) n e
def r1_trim_t (N : Nat) (neg : Bool) (d : List Int) (l1 : Bool → Bool → (List Int) → (List Int) → Option T_N1) : Option T_N1 :=
  l1 neg false [] d
def r1_trim (N : Nat) (neg : Bool) (d : List Int) : Option T_N1 := r1_trim_t N neg d (fun (neg : Bool) (t4_Neg : Bool) (t4_D : List Int) (e : List Int) => iter (r1_trim_B1 N neg t4_Neg t4_D) N e)
noncomputable def r1_trim_C (N : Nat) (neg : Bool) (d : List Int) : Option (RT [t_N1]) := callBody DR Try.prog N (r1_trim_T N) r1_trim_H Try.f45 (bodyOf Try.f45) (RT [t_N1]) (encA [.bool, (.list (.int .i64))] (neg, d, ())) [] (kPure [t_N1])
theorem r1_trim_run (N : Nat) (neg : Bool) (d : List Int) : r1_trim_C N neg d = r1_trim N neg d := by
  have h : r1_trim_C N neg d = r1_trim_t N neg d (fun (neg : Bool) (t4_Neg : Bool) (t4_D : List Int) (e : List Int) => iterF (r1_trim_R1 N ) N (r1_trim_E1 neg t4_Neg t4_D e) (r1_trim_S1 neg t4_Neg t4_D e)) := by kernel_rfl
  rw [h]
  simp only [r1_trim, r1_trim_l1] <;> rfl
def r1_trim_entO (m : Bool → (List Int) → Option T_N1) : Ent := specEnt [.bool, (.list (.int .i64))] [t_N1] fun (x : Els [.bool, (.list (.int .i64))]) => m x.1 x.2.1
def r1_trim_ent (N : Nat) : Ent := r1_trim_entO (r1_trim N)
theorem r1_trim_sound (N : Nat) : EntSound Try.prog 45 (r1_trim_ent N) := specEnt_sound (r1_trim_Ts N) Try.func45 rfl (by kernel_rfl) fun (x : Els [.bool, (.list (.int .i64))]) => r1_trim_run N x.1 x.2.1
def r1_by_H0 : LH := ⟨[(0, .lst (.int .i64)), (1, .lst (.int .i64)), (5, .int .i64)], [], []⟩
def r1_by_H : FH := ⟨[r1_by_H0], [], [(6, ⟨8, 41, 0, [], []⟩), (7, ⟨8, 41, 0, [], []⟩)], [], false, [], []⟩
noncomputable def r1_by_T (N : Nat) : CallT := tab []
theorem r1_by_Ts (N : Nat) : CallSound Try.prog (r1_by_T N) := tab_nil _
noncomputable def r1_by_sc : Sc := scOf Try.prog r1_by_H
noncomputable def r1_by_cf (N : Nat) : Cfg := ⟨N, r1_by_T N, 0⟩
noncomputable def r1_by_fin (N : Nat) : Exit → List TV → List TOb → Option Int := fin Try.prog 0 Try.f47.results.toList (kPure [(.int .i64)])
def r1_by_E1 (a : List Int) (b : List Int) (e : Int) : List TV := match e with
  | i => frm 41 [(0, .tl (.int .i64) a .unk), (1, .tl (.int .i64) b .unk), (5, .int .i64 i)]
def r1_by_S1 (a : List Int) (b : List Int) (e : Int) : List TOb := match e with
  | i => []
noncomputable def r1_by_R1 (N : Nat)  : (List TV → List TOb → Option Int) → List TV → List TOb → Option Int := rawL DR r1_by_sc (r1_by_cf N) (lopB (blkB (seqR (seqL (seqR (seqR (bodyOf Try.f47))))))) r1_by_H0 (r1_by_H.loops.drop 1) (kBlk 0 (kSeq DR r1_by_sc (r1_by_cf N) (seqR (seqR (seqR (bodyOf Try.f47)))) (r1_by_H.loops.drop 1) (r1_by_fin N)))
def r1_by_B1 (N : Nat) (a : List Int) (b : List Int)  (K0 : Int → Option Int) (e : Int) : Option Int :=
  match e with
  | i =>
    bif decide (i ≥ 0) then
      bif inR i a.length then
      bif inR i b.length then
      bif ((nthD a i 0) != (nthD b i 0)) then
        bif inR i a.length then
        bif inR i b.length then
        bif inI64 ((nthD a i 0) - (nthD b i 0)) then
        some ((nthD a i 0) - (nthD b i 0))
        else none
        else none
        else none
      else
        bif inI64 (i - 1) then
        K0 (i - 1)
        else none
      else none
      else none
    else
      some 0
theorem r1_by_l1 (N : Nat) (a : List Int) (b : List Int)  (n : Nat) (e : Int) : iterF (r1_by_R1 N ) n ((r1_by_E1 a b) e) ((r1_by_S1 a b) e) = iter (r1_by_B1 N a b ) n e :=
  loop_iter (r1_by_E1 a b) (r1_by_S1 a b) (by intro K e; kernel_rfl) n e
def r1_by_t (N : Nat) (a : List Int) (b : List Int) (l1 : (List Int) → (List Int) → Int → Option Int) : Option Int :=
  bif ((a.length : Int) != (b.length : Int)) then
    bif inI64 ((a.length : Int) - (b.length : Int)) then
    some ((a.length : Int) - (b.length : Int))
    else none
  else
    bif inI64 ((a.length : Int) - 1) then
    l1 a b ((a.length : Int) - 1)
    else none
def r1_by (N : Nat) (a : List Int) (b : List Int) : Option Int := r1_by_t N a b (fun (a : List Int) (b : List Int) (e : Int) => iter (r1_by_B1 N a b) N e)
noncomputable def r1_by_C (N : Nat) (a : List Int) (b : List Int) : Option (RT [(.int .i64)]) := callBody DR Try.prog N (r1_by_T N) r1_by_H Try.f47 (bodyOf Try.f47) (RT [(.int .i64)]) (encA [(.list (.int .i64)), (.list (.int .i64))] (a, b, ())) [] (kPure [(.int .i64)])
theorem r1_by_run (N : Nat) (a : List Int) (b : List Int) : r1_by_C N a b = r1_by N a b := by
  have h : r1_by_C N a b = r1_by_t N a b (fun (a : List Int) (b : List Int) (e : Int) => iterF (r1_by_R1 N ) N (r1_by_E1 a b e) (r1_by_S1 a b e)) := by kernel_rfl
  rw [h]
  simp only [r1_by, r1_by_l1] <;> rfl
def r1_by_entO (m : (List Int) → (List Int) → Option Int) : Ent := specEnt [(.list (.int .i64)), (.list (.int .i64))] [(.int .i64)] fun (x : Els [(.list (.int .i64)), (.list (.int .i64))]) => m x.1 x.2.1
def r1_by_ent (N : Nat) : Ent := r1_by_entO (r1_by N)
theorem r1_by_sound (N : Nat) : EntSound Try.prog 47 (r1_by_ent N) := specEnt_sound (r1_by_Ts N) Try.func47 rfl (by kernel_rfl) fun (x : Els [(.list (.int .i64)), (.list (.int .i64))]) => r1_by_run N x.1 x.2.1
def r1_down_H0 : LH := ⟨[(0, .lst (.int .i64)), (1, .lst (.int .i64)), (5, .own (.int .i64) 505 3 1), (6, .int .i64), (7, .int .i64)], [], []⟩
def r1_down_H : FH := ⟨[r1_down_H0], [], [], [], false, [], []⟩
noncomputable def r1_down_T (N : Nat) : CallT := tab []
theorem r1_down_Ts (N : Nat) : CallSound Try.prog (r1_down_T N) := tab_nil _
noncomputable def r1_down_sc : Sc := scOf Try.prog r1_down_H
noncomputable def r1_down_cf (N : Nat) : Cfg := ⟨N, r1_down_T N, 0⟩
noncomputable def r1_down_fin (N : Nat) : Exit → List TV → List TOb → Option (List Int) := fin Try.prog 0 Try.f48.results.toList (kPure [(.list (.int .i64))])
def r1_down_E1 (a : List Int) (b : List Int) (e : List Int × Int × Int) : List TV := match e with
  | (out, owed, i) => frm 40 [(0, .tl (.int .i64) a .unk), (1, .tl (.int .i64) b .unk), (5, .tl (.int .i64) out (.own 505 3 1)), (6, .int .i64 owed), (7, .int .i64 i)]
def r1_down_S1 (a : List Int) (b : List Int) (e : List Int × Int × Int) : List TOb := match e with
  | (out, owed, i) => []
noncomputable def r1_down_R1 (N : Nat)  : (List TV → List TOb → Option (List Int)) → List TV → List TOb → Option (List Int) := rawL DR r1_down_sc (r1_down_cf N) (lopB (blkB (seqR (seqL (seqR (seqR (seqR (bodyOf Try.f48)))))))) r1_down_H0 (r1_down_H.loops.drop 1) (kBlk 0 (kSeq DR r1_down_sc (r1_down_cf N) (seqR (seqR (seqR (seqR (bodyOf Try.f48))))) (r1_down_H.loops.drop 1) (r1_down_fin N)))
def r1_down_B1 (N : Nat) (a : List Int) (b : List Int)  (K0 : (List Int × Int × Int) → Option (List Int)) (e : List Int × Int × Int) : Option (List Int) :=
  match e with
  | (out, owed, i) =>
    bif decide (i < (a.length : Int)) then
      bif inR i a.length then
      bif inI64 ((nthD a i 0) - owed) then
      bif decide (i < (b.length : Int)) then
        bif inR i b.length then
        bif inI64 (((nthD a i 0) - owed) - (nthD b i 0)) then
        bif decide ((((nthD a i 0) - owed) - (nthD b i 0)) < 0) then
          bif inI64 ((((nthD a i 0) - owed) - (nthD b i 0)) + 10000) then
          bif fits (out.length + [(((nthD a i 0) - owed) - (nthD b i 0)) + 10000].length) 17592186044416 then
          bif inI64 (i + 1) then
          K0 ((out ++ [(((nthD a i 0) - owed) - (nthD b i 0)) + 10000]), 1, i + 1)
          else none
          else none
          else none
        else
          bif fits (out.length + [((nthD a i 0) - owed) - (nthD b i 0)].length) 17592186044416 then
          bif inI64 (i + 1) then
          K0 ((out ++ [((nthD a i 0) - owed) - (nthD b i 0)]), 0, i + 1)
          else none
          else none
        else none
        else none
      else
        bif decide (((nthD a i 0) - owed) < 0) then
          bif inI64 (((nthD a i 0) - owed) + 10000) then
          bif fits (out.length + [((nthD a i 0) - owed) + 10000].length) 17592186044416 then
          bif inI64 (i + 1) then
          K0 ((out ++ [((nthD a i 0) - owed) + 10000]), 1, i + 1)
          else none
          else none
          else none
        else
          bif fits (out.length + [(nthD a i 0) - owed].length) 17592186044416 then
          bif inI64 (i + 1) then
          K0 ((out ++ [(nthD a i 0) - owed]), 0, i + 1)
          else none
          else none
      else none
      else none
    else
      some out
theorem r1_down_l1 (N : Nat) (a : List Int) (b : List Int)  (n : Nat) (e : List Int × Int × Int) : iterF (r1_down_R1 N ) n ((r1_down_E1 a b) e) ((r1_down_S1 a b) e) = iter (r1_down_B1 N a b ) n e :=
  loop_iter (r1_down_E1 a b) (r1_down_S1 a b) (by intro K e; obtain ⟨out, owed, i⟩ := e; kernel_rfl) n e
def r1_down_t (N : Nat) (a : List Int) (b : List Int) (l1 : (List Int) → (List Int) → (List Int × Int × Int) → Option (List Int)) : Option (List Int) :=
  l1 a b ([], 0, 0)
def r1_down (N : Nat) (a : List Int) (b : List Int) : Option (List Int) := r1_down_t N a b (fun (a : List Int) (b : List Int) (e : List Int × Int × Int) => iter (r1_down_B1 N a b) N e)
noncomputable def r1_down_C (N : Nat) (a : List Int) (b : List Int) : Option (RT [(.list (.int .i64))]) := callBody DR Try.prog N (r1_down_T N) r1_down_H Try.f48 (bodyOf Try.f48) (RT [(.list (.int .i64))]) (encA [(.list (.int .i64)), (.list (.int .i64))] (a, b, ())) [] (kPure [(.list (.int .i64))])
theorem r1_down_run (N : Nat) (a : List Int) (b : List Int) : r1_down_C N a b = r1_down N a b := by
  have h : r1_down_C N a b = r1_down_t N a b (fun (a : List Int) (b : List Int) (e : List Int × Int × Int) => iterF (r1_down_R1 N ) N (r1_down_E1 a b e) (r1_down_S1 a b e)) := by kernel_rfl
  rw [h]
  simp only [r1_down, r1_down_l1] <;> rfl
def r1_down_entO (m : (List Int) → (List Int) → Option (List Int)) : Ent := specEnt [(.list (.int .i64)), (.list (.int .i64))] [(.list (.int .i64))] fun (x : Els [(.list (.int .i64)), (.list (.int .i64))]) => m x.1 x.2.1
def r1_down_ent (N : Nat) : Ent := r1_down_entO (r1_down N)
theorem r1_down_sound (N : Nat) : EntSound Try.prog 48 (r1_down_ent N) := specEnt_sound (r1_down_Ts N) Try.func48 rfl (by kernel_rfl) fun (x : Els [(.list (.int .i64)), (.list (.int .i64))]) => r1_down_run N x.1 x.2.1
def r1_Add_H : FH := ⟨[], [], [(2, ⟨7, 40, 0, [], []⟩), (4, ⟨7, 40, 0, [], []⟩), (5, ⟨7, 40, 0, [], []⟩)], [], false, [], []⟩
noncomputable def r1_Add_T (N : Nat) : CallT := tab [(46, r1_up_ent N), (45, r1_trim_ent N), (47, r1_by_ent N), (48, r1_down_ent N)]
theorem r1_Add_Ts (N : Nat) : CallSound Try.prog (r1_Add_T N) := tab_cons (r1_up_sound N) <| tab_cons (r1_trim_sound N) <| tab_cons (r1_by_sound N) <| tab_cons (r1_down_sound N) <| tab_nil _
def r1_Add (N : Nat) (x : T_N1) (y : T_N1) : Option T_N1 :=
  bif (x.1 == y.1) then
    (r1_up N x.2.1 y.2.1).bind fun (r : List Int) =>
    (r1_trim N x.1 r).bind fun (r1 : T_N1) =>
    some r1
  else
    (r1_by N x.2.1 y.2.1).bind fun (r2 : Int) =>
    bif decide (r2 ≥ 0) then
      (r1_down N x.2.1 y.2.1).bind fun (r3 : List Int) =>
      (r1_trim N x.1 r3).bind fun (r4 : T_N1) =>
      some r4
    else
      (r1_down N y.2.1 x.2.1).bind fun (r5 : List Int) =>
      (r1_trim N y.1 r5).bind fun (r6 : T_N1) =>
      some r6
noncomputable def r1_Add_C (N : Nat) (x : T_N1) (y : T_N1) : Option (RT [t_N1]) := callBody DR Try.prog N (r1_Add_T N) r1_Add_H Try.f13 (bodyOf Try.f13) (RT [t_N1]) (encA [t_N1, t_N1] (x, y, ())) [] (kPure [t_N1])
theorem r1_Add_run (N : Nat) (x : T_N1) (y : T_N1) : r1_Add_C N x y = r1_Add N x y := by kernel_rfl
def r1_Add_entO (m : T_N1 → T_N1 → Option T_N1) : Ent := specEnt [t_N1, t_N1] [t_N1] fun (x : Els [t_N1, t_N1]) => m x.1 x.2.1
def r1_Add_ent (N : Nat) : Ent := r1_Add_entO (r1_Add N)
theorem r1_Add_sound (N : Nat) : EntSound Try.prog 13 (r1_Add_ent N) := specEnt_sound (r1_Add_Ts N) Try.func13 rfl (by kernel_rfl) fun (x : Els [t_N1, t_N1]) => r1_Add_run N x.1 x.2.1
def r1_Neg_H : FH := ⟨[], [], [], [], false, [], []⟩
noncomputable def r1_Neg_T (N : Nat) : CallT := tab [(45, r1_trim_ent N)]
theorem r1_Neg_Ts (N : Nat) : CallSound Try.prog (r1_Neg_T N) := tab_cons (r1_trim_sound N) <| tab_nil _
def r1_Neg (N : Nat) (x : T_N1) : Option T_N1 :=
  (r1_trim N (!x.1) x.2.1).bind fun (r : T_N1) =>
  some r
noncomputable def r1_Neg_C (N : Nat) (x : T_N1) : Option (RT [t_N1]) := callBody DR Try.prog N (r1_Neg_T N) r1_Neg_H Try.f49 (bodyOf Try.f49) (RT [t_N1]) (encA [t_N1] (x, ())) [] (kPure [t_N1])
theorem r1_Neg_run (N : Nat) (x : T_N1) : r1_Neg_C N x = r1_Neg N x := by kernel_rfl
def r1_Neg_entO (m : T_N1 → Option T_N1) : Ent := specEnt [t_N1] [t_N1] fun (x : Els [t_N1]) => m x.1
def r1_Neg_ent (N : Nat) : Ent := r1_Neg_entO (r1_Neg N)
theorem r1_Neg_sound (N : Nat) : EntSound Try.prog 49 (r1_Neg_ent N) := specEnt_sound (r1_Neg_Ts N) Try.func49 rfl (by kernel_rfl) fun (x : Els [t_N1]) => r1_Neg_run N x.1
def r1_Sub_H : FH := ⟨[], [], [(1, ⟨3, 9, 0, [], []⟩)], [], false, [], []⟩
noncomputable def r1_Sub_T (N : Nat) : CallT := tab [(49, r1_Neg_ent N), (13, r1_Add_ent N)]
theorem r1_Sub_Ts (N : Nat) : CallSound Try.prog (r1_Sub_T N) := tab_cons (r1_Neg_sound N) <| tab_cons (r1_Add_sound N) <| tab_nil _
def r1_Sub (N : Nat) (x : T_N1) (y : T_N1) : Option T_N1 :=
  (r1_Neg N y).bind fun (r : T_N1) =>
  (r1_Add N x r).bind fun (r1 : T_N1) =>
  some r1
noncomputable def r1_Sub_C (N : Nat) (x : T_N1) (y : T_N1) : Option (RT [t_N1]) := callBody DR Try.prog N (r1_Sub_T N) r1_Sub_H Try.f14 (bodyOf Try.f14) (RT [t_N1]) (encA [t_N1, t_N1] (x, y, ())) [] (kPure [t_N1])
theorem r1_Sub_run (N : Nat) (x : T_N1) (y : T_N1) : r1_Sub_C N x y = r1_Sub N x y := by kernel_rfl
def r1_Sub_entO (m : T_N1 → T_N1 → Option T_N1) : Ent := specEnt [t_N1, t_N1] [t_N1] fun (x : Els [t_N1, t_N1]) => m x.1 x.2.1
def r1_Sub_ent (N : Nat) : Ent := r1_Sub_entO (r1_Sub N)
theorem r1_Sub_sound (N : Nat) : EntSound Try.prog 14 (r1_Sub_ent N) := specEnt_sound (r1_Sub_Ts N) Try.func14 rfl (by kernel_rfl) fun (x : Els [t_N1, t_N1]) => r1_Sub_run N x.1 x.2.1
def r1_Cmp_H : FH := ⟨[], [], [], [], false, [], []⟩
noncomputable def r1_Cmp_T (N : Nat) : CallT := tab [(14, r1_Sub_ent N)]
theorem r1_Cmp_Ts (N : Nat) : CallSound Try.prog (r1_Cmp_T N) := tab_cons (r1_Sub_sound N) <| tab_nil _
def r1_Cmp (N : Nat) (x : T_N1) (y : T_N1) : Option Int :=
  (r1_Sub N x y).bind fun (r : T_N1) =>
  bif r.1 then
    some (-1)
  else
    bif decide ((r.2.1.length : Int) > 0) then
      some 1
    else
      some 0
noncomputable def r1_Cmp_C (N : Nat) (x : T_N1) (y : T_N1) : Option (RT [(.int .i64)]) := callBody DR Try.prog N (r1_Cmp_T N) r1_Cmp_H Try.f50 (bodyOf Try.f50) (RT [(.int .i64)]) (encA [t_N1, t_N1] (x, y, ())) [] (kPure [(.int .i64)])
theorem r1_Cmp_run (N : Nat) (x : T_N1) (y : T_N1) : r1_Cmp_C N x y = r1_Cmp N x y := by kernel_rfl
def r1_Cmp_entO (m : T_N1 → T_N1 → Option Int) : Ent := specEnt [t_N1, t_N1] [(.int .i64)] fun (x : Els [t_N1, t_N1]) => m x.1 x.2.1
def r1_Cmp_ent (N : Nat) : Ent := r1_Cmp_entO (r1_Cmp N)
theorem r1_Cmp_sound (N : Nat) : EntSound Try.prog 50 (r1_Cmp_ent N) := specEnt_sound (r1_Cmp_Ts N) Try.func50 rfl (by kernel_rfl) fun (x : Els [t_N1, t_N1]) => r1_Cmp_run N x.1 x.2.1
def r1_N_Int_H0 : LH := ⟨[(1, .asis), (6, .int .i64), (7, .int .i64)], [], [.cells [.bool, .lst (.int .i64)], .cells [.bool, .lst (.int .i64)], .cells [.bool, .lst (.int .i64)]]⟩
def r1_N_Int_H : FH := ⟨[r1_N_Int_H0], [], [], [], false, [], []⟩
noncomputable def r1_N_Int_T (N : Nat) : CallT := tab [(6, r1_Of_ent N), (50, r1_Cmp_ent N)]
theorem r1_N_Int_Ts (N : Nat) : CallSound Try.prog (r1_N_Int_T N) := tab_cons (r1_Of_sound N) <| tab_cons (r1_Cmp_sound N) <| tab_nil _
noncomputable def r1_N_Int_sc : Sc := scOf Try.prog r1_N_Int_H
noncomputable def r1_N_Int_cf (N : Nat) : Cfg := ⟨N, r1_N_Int_T N, 0⟩
noncomputable def r1_N_Int_fin (N : Nat) : Exit → List TV → List TOb → Option (Int × Int × Unit) := fin Try.prog 0 Try.f44.results.toList (kPure [(.int .i64), (.int .i64)])
def r1_N_Int_E1 (x_Neg : Bool) (x_D : List Int) (o1_Neg : Bool) (o1_D : List Int) (o2_Neg : Bool) (o2_D : List Int) (e : Int × Int) : List TV := match e with
  | (n, i) => frm 47 [(1, .ref 0 0), (6, .int .i64 n), (7, .int .i64 i)]
def r1_N_Int_S1 (x_Neg : Bool) (x_D : List Int) (o1_Neg : Bool) (o1_D : List Int) (o2_Neg : Bool) (o2_D : List Int) (e : Int × Int) : List TOb := match e with
  | (n, i) => [.cells [.bool x_Neg, .tl (.int .i64) x_D .unk] 24 true, .cells [.bool o1_Neg, .tl (.int .i64) o1_D .unk] 24 true, .cells [.bool o2_Neg, .tl (.int .i64) o2_D .unk] 24 true]
noncomputable def r1_N_Int_R1 (N : Nat)  : (List TV → List TOb → Option (Int × Int × Unit)) → List TV → List TOb → Option (Int × Int × Unit) := rawL DR r1_N_Int_sc (r1_N_Int_cf N) (lopB (blkB (seqR (seqL (seqR (seqR (seqR (seqR (bodyOf Try.f44))))))))) r1_N_Int_H0 (r1_N_Int_H.loops.drop 1) (kBlk 0 (kSeq DR r1_N_Int_sc (r1_N_Int_cf N) (seqR (seqR (seqR (seqR (seqR (bodyOf Try.f44)))))) (r1_N_Int_H.loops.drop 1) (r1_N_Int_fin N)))
def r1_N_Int_B1 (N : Nat) (x_Neg : Bool) (x_D : List Int) (o1_Neg : Bool) (o1_D : List Int) (o2_Neg : Bool) (o2_D : List Int)  (K0 : (Int × Int) → Option (Int × Int × Unit)) (e : Int × Int) : Option (Int × Int × Unit) :=
  match e with
  | (n, i) =>
    bif decide (i ≥ 0) then
      bif x_Neg then
        bif inI64 (n * 10000) then
        bif inR i x_D.length then
        bif inI64 ((n * 10000) - (nthD x_D i 0)) then
        bif inI64 (i - 1) then
        K0 ((n * 10000) - (nthD x_D i 0), i - 1)
        else none
        else none
        else none
        else none
      else
        bif inI64 (n * 10000) then
        bif inR i x_D.length then
        bif inI64 ((n * 10000) + (nthD x_D i 0)) then
        bif inI64 (i - 1) then
        K0 ((n * 10000) + (nthD x_D i 0), i - 1)
        else none
        else none
        else none
        else none
    else
      some (n, 0, ())
theorem r1_N_Int_l1 (N : Nat) (x_Neg : Bool) (x_D : List Int) (o1_Neg : Bool) (o1_D : List Int) (o2_Neg : Bool) (o2_D : List Int)  (n : Nat) (e : Int × Int) : iterF (r1_N_Int_R1 N ) n ((r1_N_Int_E1 x_Neg x_D o1_Neg o1_D o2_Neg o2_D) e) ((r1_N_Int_S1 x_Neg x_D o1_Neg o1_D o2_Neg o2_D) e) = iter (r1_N_Int_B1 N x_Neg x_D o1_Neg o1_D o2_Neg o2_D ) n e :=
  loop_iter (r1_N_Int_E1 x_Neg x_D o1_Neg o1_D o2_Neg o2_D) (r1_N_Int_S1 x_Neg x_D o1_Neg o1_D o2_Neg o2_D) (by intro K e; obtain ⟨n, i⟩ := e; kernel_rfl) n e
def r1_N_Int_t (N : Nat) (x : T_N1) (l1 : Bool → (List Int) → Bool → (List Int) → Bool → (List Int) → (Int × Int) → Option (Int × Int × Unit)) : Option (Int × Int × Unit) :=
  (r1_Of N (-9223372036854775808)).bind fun (r : T_N1) =>
  (r1_Of N 9223372036854775807).bind fun (r1 : T_N1) =>
  (r1_Cmp N x r).bind fun (r2 : Int) =>
  bif decide (r2 < 0) then
    some (0, 9, ())
  else
    (r1_Cmp N x r1).bind fun (r3 : Int) =>
    bif decide (r3 > 0) then
      some (0, 9, ())
    else
      bif inI64 ((x.2.1.length : Int) - 1) then
      l1 x.1 x.2.1 r.1 r.2.1 r1.1 r1.2.1 (0, (x.2.1.length : Int) - 1)
      else none
def r1_N_Int (N : Nat) (x : T_N1) : Option (Int × Int × Unit) := r1_N_Int_t N x (fun (x_Neg : Bool) (x_D : List Int) (o1_Neg : Bool) (o1_D : List Int) (o2_Neg : Bool) (o2_D : List Int) (e : Int × Int) => iter (r1_N_Int_B1 N x_Neg x_D o1_Neg o1_D o2_Neg o2_D) N e)
noncomputable def r1_N_Int_C (N : Nat) (x : T_N1) : Option (RT [(.int .i64), (.int .i64)]) := callBody DR Try.prog N (r1_N_Int_T N) r1_N_Int_H Try.f44 (bodyOf Try.f44) (RT [(.int .i64), (.int .i64)]) (encA [t_N1] (x, ())) [] (kPure [(.int .i64), (.int .i64)])
theorem r1_N_Int_run (N : Nat) (x : T_N1) : r1_N_Int_C N x = r1_N_Int N x := by
  have h : r1_N_Int_C N x = r1_N_Int_t N x (fun (x_Neg : Bool) (x_D : List Int) (o1_Neg : Bool) (o1_D : List Int) (o2_Neg : Bool) (o2_D : List Int) (e : Int × Int) => iterF (r1_N_Int_R1 N ) N (r1_N_Int_E1 x_Neg x_D o1_Neg o1_D o2_Neg o2_D e) (r1_N_Int_S1 x_Neg x_D o1_Neg o1_D o2_Neg o2_D e)) := by kernel_rfl
  rw [h]
  simp only [r1_N_Int, r1_N_Int_l1] <;> rfl
def r1_N_Int_entO (m : T_N1 → Option (Int × Int × Unit)) : Ent := specEnt [t_N1] [(.int .i64), (.int .i64)] fun (x : Els [t_N1]) => m x.1
def r1_N_Int_ent (N : Nat) : Ent := r1_N_Int_entO (r1_N_Int N)
theorem r1_N_Int_sound (N : Nat) : EntSound Try.prog 44 (r1_N_Int_ent N) := specEnt_sound (r1_N_Int_Ts N) Try.func44 rfl (by kernel_rfl) fun (x : Els [t_N1]) => r1_N_Int_run N x.1
def w1_told_H : FH := ⟨[], [], [], [], false, [], []⟩
noncomputable def w1_told_T (N : Nat) : CallT := tab [(44, r1_N_Int_ent N)]
theorem w1_told_Ts (N : Nat) : CallSound Try.prog (w1_told_T N) := tab_cons (r1_N_Int_sound N) <| tab_nil _
def w1_told (N : Nat) (n : Int) (e_ : Int) (want : T_N1) : Option Bool :=
  (r1_N_Int N want).bind fun (r : Int × Int × Unit) =>
  bif (n == r.1) then
    some (e_ == r.2.1)
  else
    some false
noncomputable def w1_told_C (N : Nat) (n : Int) (e_ : Int) (want : T_N1) : Option (RT [.bool]) := callBody DR Try.prog N (w1_told_T N) w1_told_H Try.f12 (bodyOf Try.f12) (RT [.bool]) (encA [(.int .i64), (.int .i64), t_N1] (n, e_, want, ())) [] (kPure [.bool])
theorem w1_told_run (N : Nat) (n : Int) (e_ : Int) (want : T_N1) : w1_told_C N n e_ want = w1_told N n e_ want := by kernel_rfl
def w1_told_entO (m : Int → Int → T_N1 → Option Bool) : Ent := specEnt [(.int .i64), (.int .i64), t_N1] [.bool] fun (x : Els [(.int .i64), (.int .i64), t_N1]) => m x.1 x.2.1 x.2.2.1
def w1_told_ent (N : Nat) : Ent := w1_told_entO (w1_told N)
theorem w1_told_sound (N : Nat) : EntSound Try.prog 12 (w1_told_ent N) := specEnt_sound (w1_told_Ts N) Try.func12 rfl (by kernel_rfl) fun (x : Els [(.int .i64), (.int .i64), t_N1]) => w1_told_run N x.1 x.2.1 x.2.2.1
def r1_Mul_H0 : LH := ⟨[(2, .asis), (3, .asis), (4, .asis), (5, .asis), (6, .int .i64)], [], [.cells [.bool, .lst (.int .i64)], .cells [.bool, .lst (.int .i64)], .cells [.bool, .lst (.int .i64)], .cells [.bool, .lst (.int .i64)]]⟩
def r1_Mul_H1 : LH := ⟨[(2, .asis), (3, .asis), (4, .asis), (5, .asis), (6, .int .i64), (7, .own (.int .i64) 507 3 1), (8, .int .i64), (9, .int .i64)], [], [.cells [.bool, .lst (.int .i64)], .cells [.bool, .lst (.int .i64)], .cells [.bool, .lst (.int .i64)], .cells [.bool, .lst (.int .i64)]]⟩
def r1_Mul_H : FH := ⟨[r1_Mul_H0, r1_Mul_H1], [], [(11, ⟨12, 69, 0, [], []⟩)], [], false, [], []⟩
noncomputable def r1_Mul_T (N : Nat) : CallT := tab [(46, r1_up_ent N), (45, r1_trim_ent N)]
theorem r1_Mul_Ts (N : Nat) : CallSound Try.prog (r1_Mul_T N) := tab_cons (r1_up_sound N) <| tab_cons (r1_trim_sound N) <| tab_nil _
noncomputable def r1_Mul_sc : Sc := scOf Try.prog r1_Mul_H
noncomputable def r1_Mul_cf (N : Nat) : Cfg := ⟨N, r1_Mul_T N, 0⟩
noncomputable def r1_Mul_fin (N : Nat) : Exit → List TV → List TOb → Option T_N1 := fin Try.prog 0 Try.f15.results.toList (kPure [t_N1])
def r1_Mul_E1 (x_Neg : Bool) (x_D : List Int) (y_Neg : Bool) (y_D : List Int) (t4_Neg : Bool) (t4_D : List Int) (e : Int × Bool × List Int) : List TV := match e with
  | (i, sum_Neg, sum_D) => frm 69 [(2, .ref 0 0), (3, .ref 1 0), (4, .ref 2 0), (5, .ref 3 0), (6, .int .i64 i)]
def r1_Mul_S1 (x_Neg : Bool) (x_D : List Int) (y_Neg : Bool) (y_D : List Int) (t4_Neg : Bool) (t4_D : List Int) (e : Int × Bool × List Int) : List TOb := match e with
  | (i, sum_Neg, sum_D) => [.cells [.bool x_Neg, .tl (.int .i64) x_D .unk] 24 true, .cells [.bool y_Neg, .tl (.int .i64) y_D .unk] 24 true, .cells [.bool t4_Neg, .tl (.int .i64) t4_D .unk] 24 true, .cells [.bool sum_Neg, .tl (.int .i64) sum_D .unk] 24 true]
def r1_Mul_E2 (i : Int) (x_Neg : Bool) (x_D : List Int) (y_Neg : Bool) (y_D : List Int) (t4_Neg : Bool) (t4_D : List Int) (sum_Neg : Bool) (sum_D : List Int) (e : List Int × Int × Int) : List TV := match e with
  | (row, more, k) => frm 69 [(2, .ref 0 0), (3, .ref 1 0), (4, .ref 2 0), (5, .ref 3 0), (6, .int .i64 i), (7, .tl (.int .i64) row (.own 507 3 1)), (8, .int .i64 more), (9, .int .i64 k)]
def r1_Mul_S2 (i : Int) (x_Neg : Bool) (x_D : List Int) (y_Neg : Bool) (y_D : List Int) (t4_Neg : Bool) (t4_D : List Int) (sum_Neg : Bool) (sum_D : List Int) (e : List Int × Int × Int) : List TOb := match e with
  | (row, more, k) => [.cells [.bool x_Neg, .tl (.int .i64) x_D .unk] 24 true, .cells [.bool y_Neg, .tl (.int .i64) y_D .unk] 24 true, .cells [.bool t4_Neg, .tl (.int .i64) t4_D .unk] 24 true, .cells [.bool sum_Neg, .tl (.int .i64) sum_D .unk] 24 true]
noncomputable def r1_Mul_R2 (N : Nat) (K0r : List TV → List TOb → Option T_N1) : (List TV → List TOb → Option T_N1) → List TV → List TOb → Option T_N1 := rawL DR r1_Mul_sc (r1_Mul_cf N) (lopB (blkB (seqR (seqL (seqR (seqR (blkB (seqL (seqR (lopB (blkB (seqR (seqL (seqR (seqR (bodyOf Try.f15)))))))))))))))) r1_Mul_H1 (r1_Mul_H.loops.drop 2) (kBlk 2 (kSeq DR r1_Mul_sc (r1_Mul_cf N) (seqR (seqR (seqR (blkB (seqL (seqR (lopB (blkB (seqR (seqL (seqR (seqR (bodyOf Try.f15))))))))))))) (r1_Mul_H.loops.drop 2) (kBlk 1 (kSeq DR r1_Mul_sc (r1_Mul_cf N) (seqR (seqR (lopB (blkB (seqR (seqL (seqR (seqR (bodyOf Try.f15))))))))) (r1_Mul_H.loops.drop 2) (kLoop (r1_Mul_cf N) r1_Mul_H0 (kBlk 0 (kSeq DR r1_Mul_sc (r1_Mul_cf N) (seqR (seqR (seqR (bodyOf Try.f15)))) (r1_Mul_H.loops.drop 2) (r1_Mul_fin N))) K0r)))))
def r1_Mul_B2 (N : Nat) (i : Int) (x_Neg : Bool) (x_D : List Int) (y_Neg : Bool) (y_D : List Int) (t4_Neg : Bool) (t4_D : List Int) (sum_Neg : Bool) (sum_D : List Int) (K0 : (Int × Bool × List Int) → Option T_N1) (K1 : (List Int × Int × Int) → Option T_N1) (e : List Int × Int × Int) : Option T_N1 :=
  match e with
  | (row, more, k) =>
    bif decide (k < (x_D.length : Int)) then
      bif decide (k < (x_D.length : Int)) then
        bif inR k x_D.length then
        bif inR i y_D.length then
        bif inI64 ((nthD x_D k 0) * (nthD y_D i 0)) then
        bif inI64 (more + ((nthD x_D k 0) * (nthD y_D i 0))) then
        bif fits (row.length + [Int.tmod (more + ((nthD x_D k 0) * (nthD y_D i 0))) 10000].length) 17592186044416 then
        bif inI64 (Int.tdiv (more + ((nthD x_D k 0) * (nthD y_D i 0))) 10000) then
        bif inI64 (k + 1) then
        K1 ((row ++ [Int.tmod (more + ((nthD x_D k 0) * (nthD y_D i 0))) 10000]), Int.tdiv (more + ((nthD x_D k 0) * (nthD y_D i 0))) 10000, k + 1)
        else none
        else none
        else none
        else none
        else none
        else none
        else none
      else
        bif fits (row.length + [Int.tmod more 10000].length) 17592186044416 then
        bif inI64 (Int.tdiv more 10000) then
        bif inI64 (k + 1) then
        K1 ((row ++ [Int.tmod more 10000]), Int.tdiv more 10000, k + 1)
        else none
        else none
        else none
    else
      bif decide (more > 0) then
        bif decide (k < (x_D.length : Int)) then
          bif inR k x_D.length then
          bif inR i y_D.length then
          bif inI64 ((nthD x_D k 0) * (nthD y_D i 0)) then
          bif inI64 (more + ((nthD x_D k 0) * (nthD y_D i 0))) then
          bif fits (row.length + [Int.tmod (more + ((nthD x_D k 0) * (nthD y_D i 0))) 10000].length) 17592186044416 then
          bif inI64 (Int.tdiv (more + ((nthD x_D k 0) * (nthD y_D i 0))) 10000) then
          bif inI64 (k + 1) then
          K1 ((row ++ [Int.tmod (more + ((nthD x_D k 0) * (nthD y_D i 0))) 10000]), Int.tdiv (more + ((nthD x_D k 0) * (nthD y_D i 0))) 10000, k + 1)
          else none
          else none
          else none
          else none
          else none
          else none
          else none
        else
          bif fits (row.length + [Int.tmod more 10000].length) 17592186044416 then
          bif inI64 (Int.tdiv more 10000) then
          bif inI64 (k + 1) then
          K1 ((row ++ [Int.tmod more 10000]), Int.tdiv more 10000, k + 1)
          else none
          else none
          else none
      else
        (r1_up N sum_D row).bind fun (r : List Int) =>
        (r1_trim N false r).bind fun (r1 : T_N1) =>
        bif inI64 (i + 1) then
        K0 (i + 1, r1.1, r1.2.1)
        else none
theorem r1_Mul_l2 (N : Nat) (i : Int) (x_Neg : Bool) (x_D : List Int) (y_Neg : Bool) (y_D : List Int) (t4_Neg : Bool) (t4_D : List Int) (sum_Neg : Bool) (sum_D : List Int) (K0r : List TV → List TOb → Option T_N1) (n : Nat) (e : List Int × Int × Int) : iterF (r1_Mul_R2 N K0r) n ((r1_Mul_E2 i x_Neg x_D y_Neg y_D t4_Neg t4_D sum_Neg sum_D) e) ((r1_Mul_S2 i x_Neg x_D y_Neg y_D t4_Neg t4_D sum_Neg sum_D) e) = iter (r1_Mul_B2 N i x_Neg x_D y_Neg y_D t4_Neg t4_D sum_Neg sum_D (fun a => K0r (r1_Mul_E1 x_Neg x_D y_Neg y_D t4_Neg t4_D a) (r1_Mul_S1 x_Neg x_D y_Neg y_D t4_Neg t4_D a))) n e :=
  loop_iter (r1_Mul_E2 i x_Neg x_D y_Neg y_D t4_Neg t4_D sum_Neg sum_D) (r1_Mul_S2 i x_Neg x_D y_Neg y_D t4_Neg t4_D sum_Neg sum_D) (by intro K e; obtain ⟨row, more, k⟩ := e; kernel_rfl) n e
noncomputable def r1_Mul_R1 (N : Nat)  : (List TV → List TOb → Option T_N1) → List TV → List TOb → Option T_N1 := rawL DR r1_Mul_sc (r1_Mul_cf N) (lopB (blkB (seqR (seqL (seqR (seqR (bodyOf Try.f15))))))) r1_Mul_H0 (r1_Mul_H.loops.drop 1) (kBlk 0 (kSeq DR r1_Mul_sc (r1_Mul_cf N) (seqR (seqR (seqR (bodyOf Try.f15)))) (r1_Mul_H.loops.drop 2) (r1_Mul_fin N)))
def r1_Mul_B1t (N : Nat) (x_Neg : Bool) (x_D : List Int) (y_Neg : Bool) (y_D : List Int) (t4_Neg : Bool) (t4_D : List Int)  (l2 : Int → Bool → (List Int) → Bool → (List Int) → Bool → (List Int) → Bool → (List Int) → (List Int × Int × Int) → Option T_N1) (K0 : (Int × Bool × List Int) → Option T_N1) (e : Int × Bool × List Int) : Option T_N1 :=
  match e with
  | (i, sum_Neg, sum_D) =>
    bif decide (i < (y_D.length : Int)) then
      bif canMake 8 i i then
      l2 i x_Neg x_D y_Neg y_D t4_Neg t4_D sum_Neg sum_D ((List.replicate i.toNat 0), 0, 0)
      else none
    else
      (r1_trim N (!(x_Neg == y_Neg)) sum_D).bind fun (r2 : T_N1) =>
      some r2
def r1_Mul_B1 (N : Nat) (x_Neg : Bool) (x_D : List Int) (y_Neg : Bool) (y_D : List Int) (t4_Neg : Bool) (t4_D : List Int)  (K0 : (Int × Bool × List Int) → Option T_N1) (e : Int × Bool × List Int) : Option T_N1 := r1_Mul_B1t N x_Neg x_D y_Neg y_D t4_Neg t4_D  (fun (i : Int) (x_Neg : Bool) (x_D : List Int) (y_Neg : Bool) (y_D : List Int) (t4_Neg : Bool) (t4_D : List Int) (sum_Neg : Bool) (sum_D : List Int) (e : List Int × Int × Int) => iter (r1_Mul_B2 N i x_Neg x_D y_Neg y_D t4_Neg t4_D sum_Neg sum_D K0) N e) K0 e
theorem r1_Mul_l1 (N : Nat) (x_Neg : Bool) (x_D : List Int) (y_Neg : Bool) (y_D : List Int) (t4_Neg : Bool) (t4_D : List Int)  (n : Nat) (e : Int × Bool × List Int) : iterF (r1_Mul_R1 N ) n ((r1_Mul_E1 x_Neg x_D y_Neg y_D t4_Neg t4_D) e) ((r1_Mul_S1 x_Neg x_D y_Neg y_D t4_Neg t4_D) e) = iter (r1_Mul_B1 N x_Neg x_D y_Neg y_D t4_Neg t4_D ) n e :=
  loop_iter (r1_Mul_E1 x_Neg x_D y_Neg y_D t4_Neg t4_D) (r1_Mul_S1 x_Neg x_D y_Neg y_D t4_Neg t4_D) (by
    intro K e
    have h : (r1_Mul_R1 N ) K ((r1_Mul_E1 x_Neg x_D y_Neg y_D t4_Neg t4_D) e) ((r1_Mul_S1 x_Neg x_D y_Neg y_D t4_Neg t4_D) e) = r1_Mul_B1t N x_Neg x_D y_Neg y_D t4_Neg t4_D  (fun (i : Int) (x_Neg : Bool) (x_D : List Int) (y_Neg : Bool) (y_D : List Int) (t4_Neg : Bool) (t4_D : List Int) (sum_Neg : Bool) (sum_D : List Int) (e : List Int × Int × Int) => iterF (r1_Mul_R2 N K) N (r1_Mul_E2 i x_Neg x_D y_Neg y_D t4_Neg t4_D sum_Neg sum_D e) (r1_Mul_S2 i x_Neg x_D y_Neg y_D t4_Neg t4_D sum_Neg sum_D e)) (fun e => K ((r1_Mul_E1 x_Neg x_D y_Neg y_D t4_Neg t4_D) e) ((r1_Mul_S1 x_Neg x_D y_Neg y_D t4_Neg t4_D) e)) e := by obtain ⟨i, sum_Neg, sum_D⟩ := e; kernel_rfl
    rw [h]
    simp only [r1_Mul_B1, r1_Mul_l2] <;> rfl) n e
def r1_Mul_t (N : Nat) (x : T_N1) (y : T_N1) (l1 : Bool → (List Int) → Bool → (List Int) → Bool → (List Int) → (Int × Bool × List Int) → Option T_N1) : Option T_N1 :=
  l1 x.1 x.2.1 y.1 y.2.1 false [] (0, false, [])
def r1_Mul (N : Nat) (x : T_N1) (y : T_N1) : Option T_N1 := r1_Mul_t N x y (fun (x_Neg : Bool) (x_D : List Int) (y_Neg : Bool) (y_D : List Int) (t4_Neg : Bool) (t4_D : List Int) (e : Int × Bool × List Int) => iter (r1_Mul_B1 N x_Neg x_D y_Neg y_D t4_Neg t4_D) N e)
noncomputable def r1_Mul_C (N : Nat) (x : T_N1) (y : T_N1) : Option (RT [t_N1]) := callBody DR Try.prog N (r1_Mul_T N) r1_Mul_H Try.f15 (bodyOf Try.f15) (RT [t_N1]) (encA [t_N1, t_N1] (x, y, ())) [] (kPure [t_N1])
theorem r1_Mul_run (N : Nat) (x : T_N1) (y : T_N1) : r1_Mul_C N x y = r1_Mul N x y := by
  have h : r1_Mul_C N x y = r1_Mul_t N x y (fun (x_Neg : Bool) (x_D : List Int) (y_Neg : Bool) (y_D : List Int) (t4_Neg : Bool) (t4_D : List Int) (e : Int × Bool × List Int) => iterF (r1_Mul_R1 N ) N (r1_Mul_E1 x_Neg x_D y_Neg y_D t4_Neg t4_D e) (r1_Mul_S1 x_Neg x_D y_Neg y_D t4_Neg t4_D e)) := by kernel_rfl
  rw [h]
  simp only [r1_Mul, r1_Mul_l1] <;> rfl
def r1_Mul_entO (m : T_N1 → T_N1 → Option T_N1) : Ent := specEnt [t_N1, t_N1] [t_N1] fun (x : Els [t_N1, t_N1]) => m x.1 x.2.1
def r1_Mul_ent (N : Nat) : Ent := r1_Mul_entO (r1_Mul N)
theorem r1_Mul_sound (N : Nat) : EntSound Try.prog 15 (r1_Mul_ent N) := specEnt_sound (r1_Mul_Ts N) Try.func15 rfl (by kernel_rfl) fun (x : Els [t_N1, t_N1]) => r1_Mul_run N x.1 x.2.1
def r1_Quo_H0 : LH := ⟨[(2, .asis), (3, .asis), (4, .asis), (5, .asis), (6, .asis), (7, .asis), (8, .asis), (9, .asis), (10, .int .i64)], [], [.cells [.bool, .lst (.int .i64)], .cells [.bool, .lst (.int .i64)], .cells [.bool, .lst (.int .i64)], .cells [.bool, .lst (.int .i64)], .cells [.bool, .lst (.int .i64)], .cells [.bool, .lst (.int .i64)], .same, .cells [.bool, .lst (.int .i64)]]⟩
def r1_Quo_H1 : LH := ⟨[(2, .asis), (3, .asis), (4, .asis), (5, .asis), (6, .asis), (7, .asis), (8, .asis), (9, .asis), (10, .int .i64), (11, .int .i64), (12, .int .i64)], [], [.cells [.bool, .lst (.int .i64)], .cells [.bool, .lst (.int .i64)], .cells [.bool, .lst (.int .i64)], .cells [.bool, .lst (.int .i64)], .cells [.bool, .lst (.int .i64)], .cells [.bool, .lst (.int .i64)], .same, .cells [.bool, .lst (.int .i64)]]⟩
def r1_Quo_H : FH := ⟨[r1_Quo_H0, r1_Quo_H1], [23], [(1, ⟨9, 83, 2, [(6, .alloc 0), (7, .alloc 1), (8, .store true 4)], []⟩), (7, ⟨8, 83, 0, [], []⟩), (11, ⟨5, 83, 0, [], []⟩), (15, ⟨5, 83, 0, [], []⟩), (16, ⟨11, 83, 0, [], []⟩)], [(16, 8)], false, [], []⟩
noncomputable def r1_Quo_T (N : Nat) : CallT := tab [(45, r1_trim_ent N), (6, r1_Of_ent N), (15, r1_Mul_ent N), (50, r1_Cmp_ent N), (14, r1_Sub_ent N)]
theorem r1_Quo_Ts (N : Nat) : CallSound Try.prog (r1_Quo_T N) := tab_cons (r1_trim_sound N) <| tab_cons (r1_Of_sound N) <| tab_cons (r1_Mul_sound N) <| tab_cons (r1_Cmp_sound N) <| tab_cons (r1_Sub_sound N) <| tab_nil _
noncomputable def r1_Quo_sc : Sc := scOf Try.prog r1_Quo_H
noncomputable def r1_Quo_cf (N : Nat) : Cfg := ⟨N, r1_Quo_T N, 0⟩
noncomputable def r1_Quo_fin (N : Nat) : Exit → List TV → List TOb → Option (T_N1 × T_N1 × Unit) := fin Try.prog 0 Try.f21.results.toList (kPure [t_N1, t_N1])
def r1_Quo_E1 (x_Neg : Bool) (x_D : List Int) (y_Neg : Bool) (y_D : List Int) (t4_Neg : Bool) (t4_D : List Int) (t5_Neg : Bool) (t5_D : List Int) (a_Neg : Bool) (a_D : List Int) (b_Neg : Bool) (b_D : List Int) (x : T_N1) (e : Int × List Int × Bool × List Int) : List TV := match e with
  | (i, q, r_Neg, r_D) => frm 83 [(2, .ref 0 0), (3, .ref 1 0), (4, .ref 2 0), (5, .ref 3 0), (6, .ref 4 0), (7, .ref 5 0), (8, .arr 6 ((x.2.1.length : Int).toNat)), (9, .ref 7 0), (10, .int .i64 i)]
def r1_Quo_S1 (x_Neg : Bool) (x_D : List Int) (y_Neg : Bool) (y_D : List Int) (t4_Neg : Bool) (t4_D : List Int) (t5_Neg : Bool) (t5_D : List Int) (a_Neg : Bool) (a_D : List Int) (b_Neg : Bool) (b_D : List Int) (x : T_N1) (e : Int × List Int × Bool × List Int) : List TOb := match e with
  | (i, q, r_Neg, r_D) => [.cells [.bool x_Neg, .tl (.int .i64) x_D .unk] 24 true, .cells [.bool y_Neg, .tl (.int .i64) y_D .unk] 24 true, .cells [.bool t4_Neg, .tl (.int .i64) t4_D .unk] 24 true, .cells [.bool t5_Neg, .tl (.int .i64) t5_D .unk] 24 true, .cells [.bool a_Neg, .tl (.int .i64) a_D .unk] 24 true, .cells [.bool b_Neg, .tl (.int .i64) b_D .unk] 24 true, .tarr (.int .i64) q 3 true, .cells [.bool r_Neg, .tl (.int .i64) r_D .unk] 24 true]
def r1_Quo_E2 (i : Int) (x_Neg : Bool) (x_D : List Int) (y_Neg : Bool) (y_D : List Int) (t4_Neg : Bool) (t4_D : List Int) (t5_Neg : Bool) (t5_D : List Int) (a_Neg : Bool) (a_D : List Int) (b_Neg : Bool) (b_D : List Int) (q : List Int) (r_Neg1 : Bool) (r_D1 : List Int) (x : T_N1) (e : Int × Int) : List TV := match e with
  | (low, high) => frm 83 [(2, .ref 0 0), (3, .ref 1 0), (4, .ref 2 0), (5, .ref 3 0), (6, .ref 4 0), (7, .ref 5 0), (8, .arr 6 ((x.2.1.length : Int).toNat)), (9, .ref 7 0), (10, .int .i64 i), (11, .int .i64 low), (12, .int .i64 high)]
def r1_Quo_S2 (i : Int) (x_Neg : Bool) (x_D : List Int) (y_Neg : Bool) (y_D : List Int) (t4_Neg : Bool) (t4_D : List Int) (t5_Neg : Bool) (t5_D : List Int) (a_Neg : Bool) (a_D : List Int) (b_Neg : Bool) (b_D : List Int) (q : List Int) (r_Neg1 : Bool) (r_D1 : List Int) (x : T_N1) (e : Int × Int) : List TOb := match e with
  | (low, high) => [.cells [.bool x_Neg, .tl (.int .i64) x_D .unk] 24 true, .cells [.bool y_Neg, .tl (.int .i64) y_D .unk] 24 true, .cells [.bool t4_Neg, .tl (.int .i64) t4_D .unk] 24 true, .cells [.bool t5_Neg, .tl (.int .i64) t5_D .unk] 24 true, .cells [.bool a_Neg, .tl (.int .i64) a_D .unk] 24 true, .cells [.bool b_Neg, .tl (.int .i64) b_D .unk] 24 true, .tarr (.int .i64) q 3 true, .cells [.bool r_Neg1, .tl (.int .i64) r_D1 .unk] 24 true]
noncomputable def r1_Quo_R2 (N : Nat) (K0r : List TV → List TOb → Option (T_N1 × T_N1 × Unit)) : (List TV → List TOb → Option (T_N1 × T_N1 × Unit)) → List TV → List TOb → Option (T_N1 × T_N1 × Unit) := rawL DR r1_Quo_sc (r1_Quo_cf N) (lopB (blkB (seqL (seqR (seqR (blkB (seqL (seqR (lopB (blkB (seqR (seqL (seqR (seqR (seqR (seqR (bodyOf Try.f21))))))))))))))))) r1_Quo_H1 (r1_Quo_H.loops.drop 2) (kBlk 2 (kSeq DR r1_Quo_sc (r1_Quo_cf N) (seqR (seqR (seqR (blkB (seqL (seqR (lopB (blkB (seqR (seqL (seqR (seqR (seqR (seqR (bodyOf Try.f21))))))))))))))) (r1_Quo_H.loops.drop 2) (kBlk 1 (kSeq DR r1_Quo_sc (r1_Quo_cf N) (seqR (seqR (lopB (blkB (seqR (seqL (seqR (seqR (seqR (seqR (bodyOf Try.f21))))))))))) (r1_Quo_H.loops.drop 2) (kLoop (r1_Quo_cf N) r1_Quo_H0 (kBlk 0 (kSeq DR r1_Quo_sc (r1_Quo_cf N) (seqR (seqR (seqR (seqR (seqR (bodyOf Try.f21)))))) (r1_Quo_H.loops.drop 2) (r1_Quo_fin N))) K0r)))))
def r1_Quo_B2 (N : Nat) (i : Int) (x_Neg : Bool) (x_D : List Int) (y_Neg : Bool) (y_D : List Int) (t4_Neg : Bool) (t4_D : List Int) (t5_Neg : Bool) (t5_D : List Int) (a_Neg : Bool) (a_D : List Int) (b_Neg : Bool) (b_D : List Int) (q : List Int) (r_Neg1 : Bool) (r_D1 : List Int) (x : T_N1) (K0 : (Int × List Int × Bool × List Int) → Option (T_N1 × T_N1 × Unit)) (K1 : (Int × Int) → Option (T_N1 × T_N1 × Unit)) (e : Int × Int) : Option (T_N1 × T_N1 × Unit) :=
  match e with
  | (low, high) =>
    bif decide (low < high) then
      bif inI64 (low + high) then
      bif inI64 ((low + high) + 1) then
      bif inI64 (Int.tdiv ((low + high) + 1) 2) then
      (r1_Of N (Int.tdiv ((low + high) + 1) 2)).bind fun (r1 : T_N1) =>
      (r1_Mul N r1 (b_Neg, b_D, ())).bind fun (r2 : T_N1) =>
      (r1_Cmp N r2 (r_Neg1, r_D1, ())).bind fun (r3 : Int) =>
      bif decide (r3 ≤ 0) then
        K1 (Int.tdiv ((low + high) + 1) 2, high)
      else
        bif inI64 ((Int.tdiv ((low + high) + 1) 2) - 1) then
        K1 (low, (Int.tdiv ((low + high) + 1) 2) - 1)
        else none
      else none
      else none
      else none
    else
      bif inR i ((x.2.1.length : Int).toNat) then
      bif inR i q.length then
      (r1_Of N low).bind fun (r4 : T_N1) =>
      (r1_Mul N r4 (b_Neg, b_D, ())).bind fun (r5 : T_N1) =>
      (r1_Sub N (r_Neg1, r_D1, ()) r5).bind fun (r6 : T_N1) =>
      bif inI64 (i - 1) then
      K0 (i - 1, (setD q i low), r6.1, r6.2.1)
      else none
      else none
      else none
theorem r1_Quo_l2 (N : Nat) (i : Int) (x_Neg : Bool) (x_D : List Int) (y_Neg : Bool) (y_D : List Int) (t4_Neg : Bool) (t4_D : List Int) (t5_Neg : Bool) (t5_D : List Int) (a_Neg : Bool) (a_D : List Int) (b_Neg : Bool) (b_D : List Int) (q : List Int) (r_Neg1 : Bool) (r_D1 : List Int) (x : T_N1) (K0r : List TV → List TOb → Option (T_N1 × T_N1 × Unit)) (n : Nat) (e : Int × Int) : iterF (r1_Quo_R2 N K0r) n ((r1_Quo_E2 i x_Neg x_D y_Neg y_D t4_Neg t4_D t5_Neg t5_D a_Neg a_D b_Neg b_D q r_Neg1 r_D1 x) e) ((r1_Quo_S2 i x_Neg x_D y_Neg y_D t4_Neg t4_D t5_Neg t5_D a_Neg a_D b_Neg b_D q r_Neg1 r_D1 x) e) = iter (r1_Quo_B2 N i x_Neg x_D y_Neg y_D t4_Neg t4_D t5_Neg t5_D a_Neg a_D b_Neg b_D q r_Neg1 r_D1 x (fun a => K0r (r1_Quo_E1 x_Neg x_D y_Neg y_D t4_Neg t4_D t5_Neg t5_D a_Neg a_D b_Neg b_D x a) (r1_Quo_S1 x_Neg x_D y_Neg y_D t4_Neg t4_D t5_Neg t5_D a_Neg a_D b_Neg b_D x a))) n e :=
  loop_iter (r1_Quo_E2 i x_Neg x_D y_Neg y_D t4_Neg t4_D t5_Neg t5_D a_Neg a_D b_Neg b_D q r_Neg1 r_D1 x) (r1_Quo_S2 i x_Neg x_D y_Neg y_D t4_Neg t4_D t5_Neg t5_D a_Neg a_D b_Neg b_D q r_Neg1 r_D1 x) (by intro K e; obtain ⟨low, high⟩ := e; kernel_rfl) n e
noncomputable def r1_Quo_R1 (N : Nat)  : (List TV → List TOb → Option (T_N1 × T_N1 × Unit)) → List TV → List TOb → Option (T_N1 × T_N1 × Unit) := rawL DR r1_Quo_sc (r1_Quo_cf N) (lopB (blkB (seqR (seqL (seqR (seqR (seqR (seqR (bodyOf Try.f21))))))))) r1_Quo_H0 (r1_Quo_H.loops.drop 1) (kBlk 0 (kSeq DR r1_Quo_sc (r1_Quo_cf N) (seqR (seqR (seqR (seqR (seqR (bodyOf Try.f21)))))) (r1_Quo_H.loops.drop 2) (r1_Quo_fin N)))
def r1_Quo_B1t (N : Nat) (x_Neg : Bool) (x_D : List Int) (y_Neg : Bool) (y_D : List Int) (t4_Neg : Bool) (t4_D : List Int) (t5_Neg : Bool) (t5_D : List Int) (a_Neg : Bool) (a_D : List Int) (b_Neg : Bool) (b_D : List Int) (x : T_N1)  (l2 : Int → Bool → (List Int) → Bool → (List Int) → Bool → (List Int) → Bool → (List Int) → Bool → (List Int) → Bool → (List Int) → (List Int) → Bool → (List Int) → T_N1 → (Int × Int) → Option (T_N1 × T_N1 × Unit)) (K0 : (Int × List Int × Bool × List Int) → Option (T_N1 × T_N1 × Unit)) (e : Int × List Int × Bool × List Int) : Option (T_N1 × T_N1 × Unit) :=
  match e with
  | (i, q, r_Neg, r_D) =>
    bif decide (i ≥ 0) then
      bif inR i a_D.length then
      bif fits ([(nthD a_D i 0)].length + r_D.length) 17592186044416 then
      (r1_trim N false ([(nthD a_D i 0)] ++ r_D)).bind fun (r : T_N1) =>
      l2 i x_Neg x_D y_Neg y_D t4_Neg t4_D t5_Neg t5_D a_Neg a_D b_Neg b_D q r.1 r.2.1 x (0, 9999)
      else none
      else none
    else
      bif Nat.beq ((x.2.1.length : Int).toNat) q.length then
      (r1_trim N (!(x_Neg == y_Neg)) q).bind fun (r7 : T_N1) =>
      (r1_trim N x_Neg r_D).bind fun (r8 : T_N1) =>
      some (r7, r8, ())
      else none
def r1_Quo_B1 (N : Nat) (x_Neg : Bool) (x_D : List Int) (y_Neg : Bool) (y_D : List Int) (t4_Neg : Bool) (t4_D : List Int) (t5_Neg : Bool) (t5_D : List Int) (a_Neg : Bool) (a_D : List Int) (b_Neg : Bool) (b_D : List Int) (x : T_N1)  (K0 : (Int × List Int × Bool × List Int) → Option (T_N1 × T_N1 × Unit)) (e : Int × List Int × Bool × List Int) : Option (T_N1 × T_N1 × Unit) := r1_Quo_B1t N x_Neg x_D y_Neg y_D t4_Neg t4_D t5_Neg t5_D a_Neg a_D b_Neg b_D x  (fun (i : Int) (x_Neg : Bool) (x_D : List Int) (y_Neg : Bool) (y_D : List Int) (t4_Neg : Bool) (t4_D : List Int) (t5_Neg : Bool) (t5_D : List Int) (a_Neg : Bool) (a_D : List Int) (b_Neg : Bool) (b_D : List Int) (q : List Int) (r_Neg1 : Bool) (r_D1 : List Int) (x : T_N1) (e : Int × Int) => iter (r1_Quo_B2 N i x_Neg x_D y_Neg y_D t4_Neg t4_D t5_Neg t5_D a_Neg a_D b_Neg b_D q r_Neg1 r_D1 x K0) N e) K0 e
theorem r1_Quo_l1 (N : Nat) (x_Neg : Bool) (x_D : List Int) (y_Neg : Bool) (y_D : List Int) (t4_Neg : Bool) (t4_D : List Int) (t5_Neg : Bool) (t5_D : List Int) (a_Neg : Bool) (a_D : List Int) (b_Neg : Bool) (b_D : List Int) (x : T_N1)  (n : Nat) (e : Int × List Int × Bool × List Int) : iterF (r1_Quo_R1 N ) n ((r1_Quo_E1 x_Neg x_D y_Neg y_D t4_Neg t4_D t5_Neg t5_D a_Neg a_D b_Neg b_D x) e) ((r1_Quo_S1 x_Neg x_D y_Neg y_D t4_Neg t4_D t5_Neg t5_D a_Neg a_D b_Neg b_D x) e) = iter (r1_Quo_B1 N x_Neg x_D y_Neg y_D t4_Neg t4_D t5_Neg t5_D a_Neg a_D b_Neg b_D x ) n e :=
  loop_iter (r1_Quo_E1 x_Neg x_D y_Neg y_D t4_Neg t4_D t5_Neg t5_D a_Neg a_D b_Neg b_D x) (r1_Quo_S1 x_Neg x_D y_Neg y_D t4_Neg t4_D t5_Neg t5_D a_Neg a_D b_Neg b_D x) (by
    intro K e
    have h : (r1_Quo_R1 N ) K ((r1_Quo_E1 x_Neg x_D y_Neg y_D t4_Neg t4_D t5_Neg t5_D a_Neg a_D b_Neg b_D x) e) ((r1_Quo_S1 x_Neg x_D y_Neg y_D t4_Neg t4_D t5_Neg t5_D a_Neg a_D b_Neg b_D x) e) = r1_Quo_B1t N x_Neg x_D y_Neg y_D t4_Neg t4_D t5_Neg t5_D a_Neg a_D b_Neg b_D x  (fun (i : Int) (x_Neg : Bool) (x_D : List Int) (y_Neg : Bool) (y_D : List Int) (t4_Neg : Bool) (t4_D : List Int) (t5_Neg : Bool) (t5_D : List Int) (a_Neg : Bool) (a_D : List Int) (b_Neg : Bool) (b_D : List Int) (q : List Int) (r_Neg1 : Bool) (r_D1 : List Int) (x : T_N1) (e : Int × Int) => iterF (r1_Quo_R2 N K) N (r1_Quo_E2 i x_Neg x_D y_Neg y_D t4_Neg t4_D t5_Neg t5_D a_Neg a_D b_Neg b_D q r_Neg1 r_D1 x e) (r1_Quo_S2 i x_Neg x_D y_Neg y_D t4_Neg t4_D t5_Neg t5_D a_Neg a_D b_Neg b_D q r_Neg1 r_D1 x e)) (fun e => K ((r1_Quo_E1 x_Neg x_D y_Neg y_D t4_Neg t4_D t5_Neg t5_D a_Neg a_D b_Neg b_D x) e) ((r1_Quo_S1 x_Neg x_D y_Neg y_D t4_Neg t4_D t5_Neg t5_D a_Neg a_D b_Neg b_D x) e)) e := by obtain ⟨i, q, r_Neg, r_D⟩ := e; kernel_rfl
    rw [h]
    simp only [r1_Quo_B1, r1_Quo_l2] <;> rfl) n e
def r1_Quo_t (N : Nat) (x : T_N1) (y : T_N1) (l1 : Bool → (List Int) → Bool → (List Int) → Bool → (List Int) → Bool → (List Int) → Bool → (List Int) → Bool → (List Int) → T_N1 → (Int × List Int × Bool × List Int) → Option (T_N1 × T_N1 × Unit)) : Option (T_N1 × T_N1 × Unit) :=
  bif canMake 8 (x.2.1.length : Int) (x.2.1.length : Int) then
  bif inI64 ((x.2.1.length : Int) - 1) then
  l1 x.1 x.2.1 y.1 y.2.1 false [] false [] false x.2.1 false y.2.1 x ((x.2.1.length : Int) - 1, (List.replicate (x.2.1.length : Int).toNat 0), false, [])
  else none
  else none
def r1_Quo (N : Nat) (x : T_N1) (y : T_N1) : Option (T_N1 × T_N1 × Unit) := r1_Quo_t N x y (fun (x_Neg : Bool) (x_D : List Int) (y_Neg : Bool) (y_D : List Int) (t4_Neg : Bool) (t4_D : List Int) (t5_Neg : Bool) (t5_D : List Int) (a_Neg : Bool) (a_D : List Int) (b_Neg : Bool) (b_D : List Int) (x : T_N1) (e : Int × List Int × Bool × List Int) => iter (r1_Quo_B1 N x_Neg x_D y_Neg y_D t4_Neg t4_D t5_Neg t5_D a_Neg a_D b_Neg b_D x) N e)
noncomputable def r1_Quo_C (N : Nat) (x : T_N1) (y : T_N1) : Option (RT [t_N1, t_N1]) := callBody DR Try.prog N (r1_Quo_T N) r1_Quo_H Try.f21 (bodyOf Try.f21) (RT [t_N1, t_N1]) (encA [t_N1, t_N1] (x, y, ())) [] (kPure [t_N1, t_N1])
theorem r1_Quo_run (N : Nat) (x : T_N1) (y : T_N1) : r1_Quo_C N x y = r1_Quo N x y := by
  have h : r1_Quo_C N x y = r1_Quo_t N x y (fun (x_Neg : Bool) (x_D : List Int) (y_Neg : Bool) (y_D : List Int) (t4_Neg : Bool) (t4_D : List Int) (t5_Neg : Bool) (t5_D : List Int) (a_Neg : Bool) (a_D : List Int) (b_Neg : Bool) (b_D : List Int) (x : T_N1) (e : Int × List Int × Bool × List Int) => iterF (r1_Quo_R1 N ) N (r1_Quo_E1 x_Neg x_D y_Neg y_D t4_Neg t4_D t5_Neg t5_D a_Neg a_D b_Neg b_D x e) (r1_Quo_S1 x_Neg x_D y_Neg y_D t4_Neg t4_D t5_Neg t5_D a_Neg a_D b_Neg b_D x e)) := by kernel_rfl
  rw [h]
  simp only [r1_Quo, r1_Quo_l1] <;> rfl
def r1_Quo_entO (m : T_N1 → T_N1 → Option (T_N1 × T_N1 × Unit)) : Ent := specEnt [t_N1, t_N1] [t_N1, t_N1] fun (x : Els [t_N1, t_N1]) => m x.1 x.2.1
def r1_Quo_ent (N : Nat) : Ent := r1_Quo_entO (r1_Quo N)
theorem r1_Quo_sound (N : Nat) : EntSound Try.prog 21 (r1_Quo_ent N) := specEnt_sound (r1_Quo_Ts N) Try.func21 rfl (by kernel_rfl) fun (x : Els [t_N1, t_N1]) => r1_Quo_run N x.1 x.2.1
def r1_Even_H : FH := ⟨[], [], [(8, ⟨2, 61, 0, [], []⟩), (9, ⟨2, 61, 0, [], []⟩)], [], false, [], []⟩
noncomputable def r1_Even_T (N : Nat) : CallT := tab [(21, r1_Quo_ent N), (46, r1_up_ent N), (47, r1_by_ent N), (6, r1_Of_ent N), (14, r1_Sub_ent N), (13, r1_Add_ent N)]
theorem r1_Even_Ts (N : Nat) : CallSound Try.prog (r1_Even_T N) := tab_cons (r1_Quo_sound N) <| tab_cons (r1_up_sound N) <| tab_cons (r1_by_sound N) <| tab_cons (r1_Of_sound N) <| tab_cons (r1_Sub_sound N) <| tab_cons (r1_Add_sound N) <| tab_nil _
def r1_Even (N : Nat) (x : T_N1) (y : T_N1) : Option T_N1 :=
  (r1_Quo N x y).bind fun (r : T_N1 × T_N1 × Unit) =>
  (r1_up N r.2.1.2.1 r.2.1.2.1).bind fun (r1 : List Int) =>
  (r1_by N r1 y.2.1).bind fun (r2 : Int) =>
  bif decide ((r.1.2.1.length : Int) > 0) then
    bif inR 0 r.1.2.1.length then
    bif decide (r2 < 0) then
      some r.1
    else
      bif (r2 == 0) then
        bif (!((Int.tmod (nthD r.1.2.1 0 0) 2) == 1)) then
          some r.1
        else
          bif (!(x.1 == y.1)) then
            (r1_Of N 1).bind fun (r3 : T_N1) =>
            (r1_Sub N r.1 r3).bind fun (r4 : T_N1) =>
            some r4
          else
            (r1_Of N 1).bind fun (r5 : T_N1) =>
            (r1_Add N r.1 r5).bind fun (r6 : T_N1) =>
            some r6
      else
        bif (!(x.1 == y.1)) then
          (r1_Of N 1).bind fun (r7 : T_N1) =>
          (r1_Sub N r.1 r7).bind fun (r8 : T_N1) =>
          some r8
        else
          (r1_Of N 1).bind fun (r9 : T_N1) =>
          (r1_Add N r.1 r9).bind fun (r10 : T_N1) =>
          some r10
    else none
  else
    bif decide (r2 < 0) then
      some r.1
    else
      bif (r2 == 0) then
        some r.1
      else
        bif (!(x.1 == y.1)) then
          (r1_Of N 1).bind fun (r11 : T_N1) =>
          (r1_Sub N r.1 r11).bind fun (r12 : T_N1) =>
          some r12
        else
          (r1_Of N 1).bind fun (r13 : T_N1) =>
          (r1_Add N r.1 r13).bind fun (r14 : T_N1) =>
          some r14
noncomputable def r1_Even_C (N : Nat) (x : T_N1) (y : T_N1) : Option (RT [t_N1]) := callBody DR Try.prog N (r1_Even_T N) r1_Even_H Try.f16 (bodyOf Try.f16) (RT [t_N1]) (encA [t_N1, t_N1] (x, y, ())) [] (kPure [t_N1])
theorem r1_Even_run (N : Nat) (x : T_N1) (y : T_N1) : r1_Even_C N x y = r1_Even N x y := by kernel_rfl
def r1_Even_entO (m : T_N1 → T_N1 → Option T_N1) : Ent := specEnt [t_N1, t_N1] [t_N1] fun (x : Els [t_N1, t_N1]) => m x.1 x.2.1
def r1_Even_ent (N : Nat) : Ent := r1_Even_entO (r1_Even N)
theorem r1_Even_sound (N : Nat) : EntSound Try.prog 16 (r1_Even_ent N) := specEnt_sound (r1_Even_Ts N) Try.func16 rfl (by kernel_rfl) fun (x : Els [t_N1, t_N1]) => r1_Even_run N x.1 x.2.1
def num_Quo_H : FH := ⟨[], [], [], [], false, [], []⟩
noncomputable def num_Quo_T (N : Nat) : CallT := tab [(41, num_size_ent N), (42, num_signed_ent N)]
theorem num_Quo_Ts (N : Nat) : CallSound Try.prog (num_Quo_T N) := tab_cons (num_size_sound N) <| tab_cons (num_signed_sound N) <| tab_nil _
def num_Quo (N : Nat) (a : Int) (b : Int) : Option (Int × Int × Unit) :=
  bif (b == 0) then
    some (0, 10, ())
  else
    (num_size N a).bind fun (r : Int) =>
    (num_size N b).bind fun (r1 : Int) =>
    bif (decide (r1 ≠ 0) && true) then
    (num_signed N (!((decide (a < 0)) == (decide (b < 0)))) 0 (IntKind.u64.wrap (Int.tdiv r r1))).bind fun (r2 : Int × Int × Unit) =>
    some r2
    else none
noncomputable def num_Quo_C (N : Nat) (a : Int) (b : Int) : Option (RT [(.int .i64), (.int .i64)]) := callBody DR Try.prog N (num_Quo_T N) num_Quo_H Try.f17 (bodyOf Try.f17) (RT [(.int .i64), (.int .i64)]) (encA [(.int .i64), (.int .i64)] (a, b, ())) [] (kPure [(.int .i64), (.int .i64)])
theorem num_Quo_run (N : Nat) (a : Int) (b : Int) : num_Quo_C N a b = num_Quo N a b := by kernel_rfl
def num_Quo_entO (m : Int → Int → Option (Int × Int × Unit)) : Ent := specEnt [(.int .i64), (.int .i64)] [(.int .i64), (.int .i64)] fun (x : Els [(.int .i64), (.int .i64)]) => m x.1 x.2.1
def num_Quo_ent (N : Nat) : Ent := num_Quo_entO (num_Quo N)
theorem num_Quo_sound (N : Nat) : EntSound Try.prog 17 (num_Quo_ent N) := specEnt_sound (num_Quo_Ts N) Try.func17 rfl (by kernel_rfl) fun (x : Els [(.int .i64), (.int .i64)]) => num_Quo_run N x.1 x.2.1
def num_Mod_H : FH := ⟨[], [], [], [], false, [], []⟩
noncomputable def num_Mod_T (N : Nat) : CallT := tab [(41, num_size_ent N), (42, num_signed_ent N)]
theorem num_Mod_Ts (N : Nat) : CallSound Try.prog (num_Mod_T N) := tab_cons (num_size_sound N) <| tab_cons (num_signed_sound N) <| tab_nil _
def num_Mod (N : Nat) (a : Int) (b : Int) : Option (Int × Int × Unit) :=
  bif (b == 0) then
    some (0, 10, ())
  else
    (num_size N a).bind fun (r : Int) =>
    (num_size N b).bind fun (r1 : Int) =>
    bif decide (r1 ≠ 0) then
    (num_signed N (decide (a < 0)) 0 (Int.tmod r r1)).bind fun (r2 : Int × Int × Unit) =>
    some r2
    else none
noncomputable def num_Mod_C (N : Nat) (a : Int) (b : Int) : Option (RT [(.int .i64), (.int .i64)]) := callBody DR Try.prog N (num_Mod_T N) num_Mod_H Try.f18 (bodyOf Try.f18) (RT [(.int .i64), (.int .i64)]) (encA [(.int .i64), (.int .i64)] (a, b, ())) [] (kPure [(.int .i64), (.int .i64)])
theorem num_Mod_run (N : Nat) (a : Int) (b : Int) : num_Mod_C N a b = num_Mod N a b := by kernel_rfl
def num_Mod_entO (m : Int → Int → Option (Int × Int × Unit)) : Ent := specEnt [(.int .i64), (.int .i64)] [(.int .i64), (.int .i64)] fun (x : Els [(.int .i64), (.int .i64)]) => m x.1 x.2.1
def num_Mod_ent (N : Nat) : Ent := num_Mod_entO (num_Mod N)
theorem num_Mod_sound (N : Nat) : EntSound Try.prog 18 (num_Mod_ent N) := specEnt_sound (num_Mod_Ts N) Try.func18 rfl (by kernel_rfl) fun (x : Els [(.int .i64), (.int .i64)]) => num_Mod_run N x.1 x.2.1
def num_DivDec_H : FH := ⟨[], [], [], [], false, [], []⟩
noncomputable def num_DivDec_T (N : Nat) : CallT := tab [(43, num_over_ent N)]
theorem num_DivDec_Ts (N : Nat) : CallSound Try.prog (num_DivDec_T N) := tab_cons (num_over_sound N) <| tab_nil _
def num_DivDec (N : Nat) (a : Int) (b : Int) : Option (Int × Int × Unit) :=
  bif (b == 0) then
    some (0, 10, ())
  else
    (num_over N a 10000 b).bind fun (r : Int × Int × Unit) =>
    some r
noncomputable def num_DivDec_C (N : Nat) (a : Int) (b : Int) : Option (RT [(.int .i64), (.int .i64)]) := callBody DR Try.prog N (num_DivDec_T N) num_DivDec_H Try.f19 (bodyOf Try.f19) (RT [(.int .i64), (.int .i64)]) (encA [(.int .i64), (.int .i64)] (a, b, ())) [] (kPure [(.int .i64), (.int .i64)])
theorem num_DivDec_run (N : Nat) (a : Int) (b : Int) : num_DivDec_C N a b = num_DivDec N a b := by kernel_rfl
def num_DivDec_entO (m : Int → Int → Option (Int × Int × Unit)) : Ent := specEnt [(.int .i64), (.int .i64)] [(.int .i64), (.int .i64)] fun (x : Els [(.int .i64), (.int .i64)]) => m x.1 x.2.1
def num_DivDec_ent (N : Nat) : Ent := num_DivDec_entO (num_DivDec N)
theorem num_DivDec_sound (N : Nat) : EntSound Try.prog 19 (num_DivDec_ent N) := specEnt_sound (num_DivDec_Ts N) Try.func19 rfl (by kernel_rfl) fun (x : Els [(.int .i64), (.int .i64)]) => num_DivDec_run N x.1 x.2.1
def w1_known_H : FH := ⟨[], [], [], [], false, [], []⟩
noncomputable def w1_known_T (N : Nat) : CallT := tab [(17, num_Quo_ent N), (18, num_Mod_ent N), (11, num_MulDec_ent N), (19, num_DivDec_ent N)]
theorem w1_known_Ts (N : Nat) : CallSound Try.prog (w1_known_T N) := tab_cons (num_Quo_sound N) <| tab_cons (num_Mod_sound N) <| tab_cons (num_MulDec_sound N) <| tab_cons (num_DivDec_sound N) <| tab_nil _
def w1_known (N : Nat)  : Option Bool :=
  (num_Quo N (-7) 2).bind fun (r : Int × Int × Unit) =>
  (num_Mod N (-7) 2).bind fun (r1 : Int × Int × Unit) =>
  (num_MulDec N 15000 1).bind fun (r2 : Int × Int × Unit) =>
  (num_DivDec N 10000 30000).bind fun (r3 : Int × Int × Unit) =>
  (num_Quo N (-9223372036854775808) (-1)).bind fun (r4 : Int × Int × Unit) =>
  bif (r.1 == (-3)) then
    bif (r1.1 == (-1)) then
      bif (r2.1 == 2) then
        bif (r3.1 == 3333) then
          bif (r.2.1 == 0) then
            bif (r1.2.1 == 0) then
              bif (r2.2.1 == 0) then
                bif (r3.2.1 == 0) then
                  some (r4.2.1 == 9)
                else
                  some false
              else
                some false
            else
              some false
          else
            some false
        else
          some false
      else
        some false
    else
      some false
  else
    some false
noncomputable def w1_known_C (N : Nat)  : Option (RT [.bool]) := callBody DR Try.prog N (w1_known_T N) w1_known_H Try.f20 (bodyOf Try.f20) (RT [.bool]) (encA [] (())) [] (kPure [.bool])
theorem w1_known_run (N : Nat)  : w1_known_C N  = w1_known N  := by kernel_rfl
def w1_known_entO (m : Option Bool) : Ent := specEnt [] [.bool] fun (x : Els []) => m 
def w1_known_ent (N : Nat) : Ent := w1_known_entO (w1_known N)
theorem w1_known_sound (N : Nat) : EntSound Try.prog 20 (w1_known_ent N) := specEnt_sound (w1_known_Ts N) Try.func20 rfl (by kernel_rfl) fun (x : Els []) => w1_known_run N 
def w1_NumDoes_H : FH := ⟨[], [], [(8, ⟨42, 179, 0, [], []⟩), (16, ⟨18, 179, 0, [], []⟩)], [], false, [], []⟩
noncomputable def w1_NumDoes_T (N : Nat) : CallT := tab [(6, r1_Of_ent N), (7, num_Add_ent N), (8, num_Sub_ent N), (9, num_Mul_ent N), (10, num_Scale_ent N), (11, num_MulDec_ent N), (13, r1_Add_ent N), (12, w1_told_ent N), (14, r1_Sub_ent N), (15, r1_Mul_ent N), (16, r1_Even_ent N), (17, num_Quo_ent N), (18, num_Mod_ent N), (19, num_DivDec_ent N), (20, w1_known_ent N), (21, r1_Quo_ent N)]
theorem w1_NumDoes_Ts (N : Nat) : CallSound Try.prog (w1_NumDoes_T N) := tab_cons (r1_Of_sound N) <| tab_cons (num_Add_sound N) <| tab_cons (num_Sub_sound N) <| tab_cons (num_Mul_sound N) <| tab_cons (num_Scale_sound N) <| tab_cons (num_MulDec_sound N) <| tab_cons (r1_Add_sound N) <| tab_cons (w1_told_sound N) <| tab_cons (r1_Sub_sound N) <| tab_cons (r1_Mul_sound N) <| tab_cons (r1_Even_sound N) <| tab_cons (num_Quo_sound N) <| tab_cons (num_Mod_sound N) <| tab_cons (num_DivDec_sound N) <| tab_cons (w1_known_sound N) <| tab_cons (r1_Quo_sound N) <| tab_nil _
def w1_NumDoes (N : Nat) (a : Int) (b : Int) : Option Bool :=
  (r1_Of N a).bind fun (r : T_N1) =>
  (r1_Of N b).bind fun (r1 : T_N1) =>
  (r1_Of N 10000).bind fun (r2 : T_N1) =>
  (num_Add N a b).bind fun (r3 : Int × Int × Unit) =>
  (num_Sub N a b).bind fun (r4 : Int × Int × Unit) =>
  (num_Mul N a b).bind fun (r5 : Int × Int × Unit) =>
  (num_Scale N a).bind fun (r6 : Int × Int × Unit) =>
  (num_MulDec N a b).bind fun (r7 : Int × Int × Unit) =>
  (r1_Add N r r1).bind fun (r8 : T_N1) =>
  (w1_told N r3.1 r3.2.1 r8).bind fun (r9 : Bool) =>
  bif (!r9) then
    some false
  else
    (r1_Sub N r r1).bind fun (r10 : T_N1) =>
    (w1_told N r4.1 r4.2.1 r10).bind fun (r11 : Bool) =>
    bif (!r11) then
      some false
    else
      (r1_Mul N r r1).bind fun (r12 : T_N1) =>
      (w1_told N r5.1 r5.2.1 r12).bind fun (r13 : Bool) =>
      bif (!r13) then
        some false
      else
        (r1_Mul N r r2).bind fun (r14 : T_N1) =>
        (w1_told N r6.1 r6.2.1 r14).bind fun (r15 : Bool) =>
        bif (!r15) then
          some false
        else
          (r1_Mul N r r1).bind fun (r16 : T_N1) =>
          (r1_Even N r16 r2).bind fun (r17 : T_N1) =>
          (w1_told N r7.1 r7.2.1 r17).bind fun (r18 : Bool) =>
          bif (!r18) then
            some false
          else
            (num_Quo N a b).bind fun (r19 : Int × Int × Unit) =>
            (num_Mod N a b).bind fun (r20 : Int × Int × Unit) =>
            (num_DivDec N a b).bind fun (r21 : Int × Int × Unit) =>
            bif (b == 0) then
              bif (r19.1 == 0) then
                bif (r20.1 == 0) then
                  bif (r21.1 == 0) then
                    bif (r19.2.1 == 10) then
                      bif (r20.2.1 == 10) then
                        bif (r21.2.1 == 10) then
                          (w1_known N).bind fun (r22 : Bool) =>
                          some r22
                        else
                          some false
                      else
                        some false
                    else
                      some false
                  else
                    some false
                else
                  some false
              else
                some false
            else
              (r1_Quo N r r1).bind fun (r23 : T_N1 × T_N1 × Unit) =>
              (w1_told N r19.1 r19.2.1 r23.1).bind fun (r24 : Bool) =>
              bif r24 then
                (w1_told N r20.1 r20.2.1 r23.2.1).bind fun (r25 : Bool) =>
                bif r25 then
                  (r1_Mul N r r2).bind fun (r26 : T_N1) =>
                  (r1_Even N r26 r1).bind fun (r27 : T_N1) =>
                  (w1_told N r21.1 r21.2.1 r27).bind fun (r28 : Bool) =>
                  bif r28 then
                    (w1_known N).bind fun (r29 : Bool) =>
                    some r29
                  else
                    some false
                else
                  some false
              else
                some false
noncomputable def w1_NumDoes_C (N : Nat) (a : Int) (b : Int) : Option (RT [.bool]) := callBody DR Try.prog N (w1_NumDoes_T N) w1_NumDoes_H Try.f3 (bodyOf Try.f3) (RT [.bool]) (encA [(.int .i64), (.int .i64)] (a, b, ())) [] (kPure [.bool])
theorem w1_NumDoes_run (N : Nat) (a : Int) (b : Int) : w1_NumDoes_C N a b = w1_NumDoes N a b := by kernel_rfl
def w1_NumDoes_entO (m : Int → Int → Option Bool) : Ent := specEnt [(.int .i64), (.int .i64)] [.bool] fun (x : Els [(.int .i64), (.int .i64)]) => m x.1 x.2.1
def w1_NumDoes_ent (N : Nat) : Ent := w1_NumDoes_entO (w1_NumDoes N)
theorem w1_NumDoes_sound (N : Nat) : EntSound Try.prog 3 (w1_NumDoes_ent N) := specEnt_sound (w1_NumDoes_Ts N) Try.func3 rfl (by kernel_rfl) fun (x : Els [(.int .i64), (.int .i64)]) => w1_NumDoes_run N x.1 x.2.1
def r2_Name_H0 : LH := ⟨[(0, .str), (3, .int .i64)], [], []⟩
def r2_Name_H : FH := ⟨[r2_Name_H0], [], [], [], false, [], []⟩
noncomputable def r2_Name_T (N : Nat) : CallT := tab []
theorem r2_Name_Ts (N : Nat) : CallSound Try.prog (r2_Name_T N) := tab_nil _
noncomputable def r2_Name_sc : Sc := scOf Try.prog r2_Name_H
noncomputable def r2_Name_cf (N : Nat) : Cfg := ⟨N, r2_Name_T N, 0⟩
noncomputable def r2_Name_fin (N : Nat) : Exit → List TV → List TOb → Option Bool := fin Try.prog 0 Try.f62.results.toList (kPure [.bool])
def r2_Name_E1 (s : List UInt8) (e : Int) : List TV := match e with
  | i => frm 47 [(0, .str s), (3, .int .i64 i)]
def r2_Name_S1 (s : List UInt8) (e : Int) : List TOb := match e with
  | i => []
noncomputable def r2_Name_R1 (N : Nat)  : (List TV → List TOb → Option Bool) → List TV → List TOb → Option Bool := rawL DR r2_Name_sc (r2_Name_cf N) (lopB (blkB (seqR (seqL (seqR (seqR (bodyOf Try.f62))))))) r2_Name_H0 (r2_Name_H.loops.drop 1) (kBlk 0 (kSeq DR r2_Name_sc (r2_Name_cf N) (seqR (seqR (seqR (bodyOf Try.f62)))) (r2_Name_H.loops.drop 1) (r2_Name_fin N)))
def r2_Name_B1 (N : Nat) (s : List UInt8)  (K0 : Int → Option Bool) (e : Int) : Option Bool :=
  match e with
  | i =>
    bif decide (i < (s.length : Int)) then
      bif inR i s.length then
      bif decide ((byteAt s i) ≥ 97) then
        bif inR i s.length then
        bif (!(decide ((byteAt s i) ≤ 122))) then
          bif (i == 0) then
            some false
          else
            bif inR i s.length then
            bif decide ((byteAt s i) < 48) then
              some false
            else
              bif inR i s.length then
              bif decide ((byteAt s i) > 57) then
                some false
              else
                bif inI64 (i + 1) then
                K0 (i + 1)
                else none
              else none
            else none
        else
          bif inI64 (i + 1) then
          K0 (i + 1)
          else none
        else none
      else
        bif (i == 0) then
          some false
        else
          bif inR i s.length then
          bif decide ((byteAt s i) < 48) then
            some false
          else
            bif inR i s.length then
            bif decide ((byteAt s i) > 57) then
              some false
            else
              bif inI64 (i + 1) then
              K0 (i + 1)
              else none
            else none
          else none
      else none
    else
      some true
theorem r2_Name_l1 (N : Nat) (s : List UInt8)  (n : Nat) (e : Int) : iterF (r2_Name_R1 N ) n ((r2_Name_E1 s) e) ((r2_Name_S1 s) e) = iter (r2_Name_B1 N s ) n e :=
  loop_iter (r2_Name_E1 s) (r2_Name_S1 s) (by intro K e; kernel_rfl) n e
def r2_Name_t (N : Nat) (s : List UInt8) (l1 : (List UInt8) → Int → Option Bool) : Option Bool :=
  bif decide ((s.length : Int) < 1) then
    some false
  else
    bif decide ((s.length : Int) > 12) then
      some false
    else
      l1 s 0
def r2_Name (N : Nat) (s : List UInt8) : Option Bool := r2_Name_t N s (fun (s : List UInt8) (e : Int) => iter (r2_Name_B1 N s) N e)
noncomputable def r2_Name_C (N : Nat) (s : List UInt8) : Option (RT [.bool]) := callBody DR Try.prog N (r2_Name_T N) r2_Name_H Try.f62 (bodyOf Try.f62) (RT [.bool]) (encA [.str] (s, ())) [] (kPure [.bool])
theorem r2_Name_run (N : Nat) (s : List UInt8) : r2_Name_C N s = r2_Name N s := by
  have h : r2_Name_C N s = r2_Name_t N s (fun (s : List UInt8) (e : Int) => iterF (r2_Name_R1 N ) N (r2_Name_E1 s e) (r2_Name_S1 s e)) := by kernel_rfl
  rw [h]
  simp only [r2_Name, r2_Name_l1] <;> rfl
def r2_Name_entO (m : (List UInt8) → Option Bool) : Ent := specEnt [.str] [.bool] fun (x : Els [.str]) => m x.1
def r2_Name_ent (N : Nat) : Ent := r2_Name_entO (r2_Name N)
theorem r2_Name_sound (N : Nat) : EntSound Try.prog 62 (r2_Name_ent N) := specEnt_sound (r2_Name_Ts N) Try.func62 rfl (by kernel_rfl) fun (x : Els [.str]) => r2_Name_run N x.1
def r2_May_H0 : LH := ⟨[(1, .asis), (3, .int .i64)], [], [.cells [.int .u8, .int .i64, .str]]⟩
def r2_May_H : FH := ⟨[r2_May_H0], [], [], [], false, [], []⟩
noncomputable def r2_May_T (N : Nat) : CallT := tab [(62, r2_Name_ent N)]
theorem r2_May_Ts (N : Nat) : CallSound Try.prog (r2_May_T N) := tab_cons (r2_Name_sound N) <| tab_nil _
noncomputable def r2_May_sc : Sc := scOf Try.prog r2_May_H
noncomputable def r2_May_cf (N : Nat) : Cfg := ⟨N, r2_May_T N, 0⟩
noncomputable def r2_May_fin (N : Nat) : Exit → List TV → List TOb → Option Bool := fin Try.prog 0 Try.f31.results.toList (kPure [.bool])
def r2_May_E1 (v_Kind : Int) (v_N : Int) (v_S : List UInt8) (e : Int) : List TV := match e with
  | i => frm 77 [(1, .ref 0 0), (3, .int .i64 i)]
def r2_May_S1 (v_Kind : Int) (v_N : Int) (v_S : List UInt8) (e : Int) : List TOb := match e with
  | i => [.cells [.int .u8 v_Kind, .int .i64 v_N, .str v_S] 37 true]
noncomputable def r2_May_R1 (N : Nat)  : (List TV → List TOb → Option Bool) → List TV → List TOb → Option Bool := rawL DR r2_May_sc (r2_May_cf N) (lopB (blkB (seqR (seqL (conL (seqR (conR (seqR (conR (seqR (blkB (seqR (seqL (seqR (bodyOf Try.f31))))))))))))))) r2_May_H0 (r2_May_H.loops.drop 1) (kBlk 1 (kSeq DR r2_May_sc (r2_May_cf N) (seqR (conL (seqR (conR (seqR (conR (seqR (blkB (seqR (seqL (seqR (bodyOf Try.f31)))))))))))) (r2_May_H.loops.drop 1) (kBlk 0 (kSeq DR r2_May_sc (r2_May_cf N) (seqR (seqR (bodyOf Try.f31))) (r2_May_H.loops.drop 1) (r2_May_fin N)))))
def r2_May_B1 (N : Nat) (v_Kind : Int) (v_N : Int) (v_S : List UInt8)  (K0 : Int → Option Bool) (e : Int) : Option Bool :=
  match e with
  | i =>
    bif decide (i < (v_S.length : Int)) then
      bif inR i v_S.length then
      bif decide ((byteAt v_S i) < 32) then
        some false
      else
        bif inR i v_S.length then
        bif decide ((byteAt v_S i) > 126) then
          some false
        else
          bif inI64 (i + 1) then
          K0 (i + 1)
          else none
        else none
      else none
    else
      bif (v_N == 0) then
        some (decide ((v_S.length : Int) ≤ 200))
      else
        some false
theorem r2_May_l1 (N : Nat) (v_Kind : Int) (v_N : Int) (v_S : List UInt8)  (n : Nat) (e : Int) : iterF (r2_May_R1 N ) n ((r2_May_E1 v_Kind v_N v_S) e) ((r2_May_S1 v_Kind v_N v_S) e) = iter (r2_May_B1 N v_Kind v_N v_S ) n e :=
  loop_iter (r2_May_E1 v_Kind v_N v_S) (r2_May_S1 v_Kind v_N v_S) (by intro K e; kernel_rfl) n e
def r2_May_t (N : Nat) (v : T_Value) (l1 : Int → Int → (List UInt8) → Int → Option Bool) : Option Bool :=
  bif (v.1 == 0) then
    bif (v.2.1 == 0) then
      some (v.2.2.1 == ([] : List UInt8))
    else
      some false
  else
    bif (v.1 == 1) then
      some (v.2.2.1 == ([] : List UInt8))
    else
      bif (v.1 == 2) then
        some (v.2.2.1 == ([] : List UInt8))
      else
        bif (v.1 == 3) then
          l1 v.1 v.2.1 v.2.2.1 0
        else
          bif (v.1 == 4) then
            bif (v.2.2.1 == ([] : List UInt8)) then
              bif (v.2.1 == 0) then
                some true
              else
                some (v.2.1 == 1)
            else
              some false
          else
            bif (v.1 == 5) then
              bif (v.2.1 == 0) then
                (r2_Name N v.2.2.1).bind fun (r : Bool) =>
                some r
              else
                some false
            else
              some false
def r2_May (N : Nat) (v : T_Value) : Option Bool := r2_May_t N v (fun (v_Kind : Int) (v_N : Int) (v_S : List UInt8) (e : Int) => iter (r2_May_B1 N v_Kind v_N v_S) N e)
noncomputable def r2_May_C (N : Nat) (v : T_Value) : Option (RT [.bool]) := callBody DR Try.prog N (r2_May_T N) r2_May_H Try.f31 (bodyOf Try.f31) (RT [.bool]) (encA [t_Value] (v, ())) [] (kPure [.bool])
theorem r2_May_run (N : Nat) (v : T_Value) : r2_May_C N v = r2_May N v := by
  have h : r2_May_C N v = r2_May_t N v (fun (v_Kind : Int) (v_N : Int) (v_S : List UInt8) (e : Int) => iterF (r2_May_R1 N ) N (r2_May_E1 v_Kind v_N v_S e) (r2_May_S1 v_Kind v_N v_S e)) := by kernel_rfl
  rw [h]
  simp only [r2_May, r2_May_l1] <;> rfl
def r2_May_entO (m : T_Value → Option Bool) : Ent := specEnt [t_Value] [.bool] fun (x : Els [t_Value]) => m x.1
def r2_May_ent (N : Nat) : Ent := r2_May_entO (r2_May N)
theorem r2_May_sound (N : Nat) : EntSound Try.prog 31 (r2_May_ent N) := specEnt_sound (r2_May_Ts N) Try.func31 rfl (by kernel_rfl) fun (x : Els [t_Value]) => r2_May_run N x.1
def w2_right_H0 : LH := ⟨[(5, .lst t_Value), (6, .int .i64), (7, .int .i64)], [], []⟩
def w2_right_H : FH := ⟨[w2_right_H0], [], [], [], false, [], []⟩
noncomputable def w2_right_T (N : Nat) : CallT := tab [(31, r2_May_ent N)]
theorem w2_right_Ts (N : Nat) : CallSound Try.prog (w2_right_T N) := tab_cons (r2_May_sound N) <| tab_nil _
noncomputable def w2_right_sc : Sc := scOf Try.prog w2_right_H
noncomputable def w2_right_cf (N : Nat) : Cfg := ⟨N, w2_right_T N, 0⟩
noncomputable def w2_right_fin (N : Nat) : Exit → List TV → List TOb → Option Bool := fin Try.prog 0 Try.f22.results.toList (kPure [.bool])
def w2_right_E1 (l : List T_Value) (t6 : Int) (e : Int) : List TV := match e with
  | t7 => frm 20 [(5, .tl t_Value l .unk), (6, .int .i64 t6), (7, .int .i64 t7)]
def w2_right_S1 (l : List T_Value) (t6 : Int) (e : Int) : List TOb := match e with
  | t7 => []
noncomputable def w2_right_R1 (N : Nat)  : (List TV → List TOb → Option Bool) → List TV → List TOb → Option Bool := rawL DR w2_right_sc (w2_right_cf N) (lopB (blkB (seqR (seqL (seqR (bodyOf Try.f22)))))) w2_right_H0 (w2_right_H.loops.drop 1) (kBlk 0 (kSeq DR w2_right_sc (w2_right_cf N) (seqR (seqR (bodyOf Try.f22))) (w2_right_H.loops.drop 1) (w2_right_fin N)))
def w2_right_B1 (N : Nat) (l : List T_Value) (t6 : Int)  (K0 : Int → Option Bool) (e : Int) : Option Bool :=
  match e with
  | t7 =>
    bif decide (t7 < t6) then
      bif inR t7 l.length then
      bif (((nthD l t7 d_Value).1) == 4) then
        (r2_May N (nthD l t7 d_Value)).bind fun (r : Bool) =>
        bif (!r) then
          some false
        else
          bif inI64 (t7 + 1) then
          K0 (t7 + 1)
          else none
      else
        bif inI64 (t7 + 1) then
        K0 (t7 + 1)
        else none
      else none
    else
      some true
theorem w2_right_l1 (N : Nat) (l : List T_Value) (t6 : Int)  (n : Nat) (e : Int) : iterF (w2_right_R1 N ) n ((w2_right_E1 l t6) e) ((w2_right_S1 l t6) e) = iter (w2_right_B1 N l t6 ) n e :=
  loop_iter (w2_right_E1 l t6) (w2_right_S1 l t6) (by intro K e; kernel_rfl) n e
def w2_right_t (N : Nat) (l : List T_Value) (l1 : (List T_Value) → Int → Int → Option Bool) : Option Bool :=
  l1 l (l.length : Int) 0
def w2_right (N : Nat) (l : List T_Value) : Option Bool := w2_right_t N l (fun (l : List T_Value) (t6 : Int) (e : Int) => iter (w2_right_B1 N l t6) N e)
noncomputable def w2_right_C (N : Nat) (l : List T_Value) : Option (RT [.bool]) := callBody DR Try.prog N (w2_right_T N) w2_right_H Try.f22 (bodyOf Try.f22) (RT [.bool]) (encA [(.list t_Value)] (l, ())) [] (kPure [.bool])
theorem w2_right_run (N : Nat) (l : List T_Value) : w2_right_C N l = w2_right N l := by
  have h : w2_right_C N l = w2_right_t N l (fun (l : List T_Value) (t6 : Int) (e : Int) => iterF (w2_right_R1 N ) N (w2_right_E1 l t6 e) (w2_right_S1 l t6 e)) := by kernel_rfl
  rw [h]
  simp only [w2_right, w2_right_l1] <;> rfl
def w2_right_entO (m : (List T_Value) → Option Bool) : Ent := specEnt [(.list t_Value)] [.bool] fun (x : Els [(.list t_Value)]) => m x.1
def w2_right_ent (N : Nat) : Ent := w2_right_entO (w2_right N)
theorem w2_right_sound (N : Nat) : EntSound Try.prog 22 (w2_right_ent N) := specEnt_sound (w2_right_Ts N) Try.func22 rfl (by kernel_rfl) fun (x : Els [(.list t_Value)]) => w2_right_run N x.1
def value_isNumber_H : FH := ⟨[], [], [], [], false, [], []⟩
noncomputable def value_isNumber_T (N : Nat) : CallT := tab []
theorem value_isNumber_Ts (N : Nat) : CallSound Try.prog (value_isNumber_T N) := tab_nil _
def value_isNumber (N : Nat) (v : T_Value) : Option Bool :=
  bif (v.1 == 1) then
    some true
  else
    some (v.1 == 2)
noncomputable def value_isNumber_C (N : Nat) (v : T_Value) : Option (RT [.bool]) := callBody DR Try.prog N (value_isNumber_T N) value_isNumber_H Try.f56 (bodyOf Try.f56) (RT [.bool]) (encA [t_Value] (v, ())) [] (kPure [.bool])
theorem value_isNumber_run (N : Nat) (v : T_Value) : value_isNumber_C N v = value_isNumber N v := by kernel_rfl
def value_isNumber_entO (m : T_Value → Option Bool) : Ent := specEnt [t_Value] [.bool] fun (x : Els [t_Value]) => m x.1
def value_isNumber_ent (N : Nat) : Ent := value_isNumber_entO (value_isNumber N)
theorem value_isNumber_sound (N : Nat) : EntSound Try.prog 56 (value_isNumber_ent N) := specEnt_sound (value_isNumber_Ts N) Try.func56 rfl (by kernel_rfl) fun (x : Els [t_Value]) => value_isNumber_run N x.1
def value_dec_H : FH := ⟨[], [], [], [], false, [], []⟩
noncomputable def value_dec_T (N : Nat) : CallT := tab [(10, num_Scale_ent N)]
theorem value_dec_Ts (N : Nat) : CallSound Try.prog (value_dec_T N) := tab_cons (num_Scale_sound N) <| tab_nil _
def value_dec (N : Nat) (v : T_Value) : Option (T_Value × Int × Unit) :=
  bif (v.1 == 2) then
    some (v, 0, ())
  else
    (num_Scale N v.2.1).bind fun (r : Int × Int × Unit) =>
    bif (r.2.1 != 0) then
      some ((0, 0, [], ()), r.2.1, ())
    else
      some ((2, r.1, [], ()), 0, ())
noncomputable def value_dec_C (N : Nat) (v : T_Value) : Option (RT [t_Value, (.int .i64)]) := callBody DR Try.prog N (value_dec_T N) value_dec_H Try.f79 (bodyOf Try.f79) (RT [t_Value, (.int .i64)]) (encA [t_Value] (v, ())) [] (kPure [t_Value, (.int .i64)])
theorem value_dec_run (N : Nat) (v : T_Value) : value_dec_C N v = value_dec N v := by kernel_rfl
def value_dec_entO (m : T_Value → Option (T_Value × Int × Unit)) : Ent := specEnt [t_Value] [t_Value, (.int .i64)] fun (x : Els [t_Value]) => m x.1
def value_dec_ent (N : Nat) : Ent := value_dec_entO (value_dec N)
theorem value_dec_sound (N : Nat) : EntSound Try.prog 79 (value_dec_ent N) := specEnt_sound (value_dec_Ts N) Try.func79 rfl (by kernel_rfl) fun (x : Els [t_Value]) => value_dec_run N x.1
def value_alike_H0 : LH := ⟨[(0, .lst t_Value), (2, .own t_Value 502 37 3), (3, .bool), (5, .int .u8), (10, .lst t_Value), (11, .int .i64), (12, .int .i64)], [], []⟩
def value_alike_H1 : LH := ⟨[(2, .own t_Value 502 37 3), (5, .int .u8), (36, .lst t_Value), (37, .int .i64), (38, .int .i64)], [], []⟩
def value_alike_H : FH := ⟨[value_alike_H0, value_alike_H1], [], [], [], false, [], []⟩
noncomputable def value_alike_T (N : Nat) : CallT := tab [(56, value_isNumber_ent N), (79, value_dec_ent N)]
theorem value_alike_Ts (N : Nat) : CallSound Try.prog (value_alike_T N) := tab_cons (value_isNumber_sound N) <| tab_cons (value_dec_sound N) <| tab_nil _
noncomputable def value_alike_sc : Sc := scOf Try.prog value_alike_H
noncomputable def value_alike_cf (N : Nat) : Cfg := ⟨N, value_alike_T N, 0⟩
noncomputable def value_alike_fin (N : Nat) : Exit → List TV → List TOb → Option ((List T_Value) × Bool × Int × Unit) := fin Try.prog 0 Try.f73.results.toList (kPure [(.list t_Value), .bool, (.int .i64)])
def value_alike_E1 (l : List T_Value) (out : List T_Value) (t11 : Int) (e : Bool × Int × Int) : List TV := match e with
  | (null, kind, t12) => frm 61 [(0, .tl t_Value l .unk), (2, .tl t_Value out (.own 502 37 3)), (3, .bool null), (5, .int .u8 kind), (10, .tl t_Value l .unk), (11, .int .i64 t11), (12, .int .i64 t12)]
def value_alike_S1 (l : List T_Value) (out : List T_Value) (t11 : Int) (e : Bool × Int × Int) : List TOb := match e with
  | (null, kind, t12) => []
def value_alike_E2 (kind : Int) (l : List T_Value) (t37 : Int) (e : List T_Value × Int) : List TV := match e with
  | (out1, t38) => frm 61 [(2, .tl t_Value out1 (.own 502 37 3)), (5, .int .u8 kind), (36, .tl t_Value l .unk), (37, .int .i64 t37), (38, .int .i64 t38)]
def value_alike_S2 (kind : Int) (l : List T_Value) (t37 : Int) (e : List T_Value × Int) : List TOb := match e with
  | (out1, t38) => []
noncomputable def value_alike_R2 (N : Nat)  : (List TV → List TOb → Option ((List T_Value) × Bool × Int × Unit)) → List TV → List TOb → Option ((List T_Value) × Bool × Int × Unit) := rawL DR value_alike_sc (value_alike_cf N) (lopB (blkB (seqR (seqL (seqR (seqR (seqR (seqR (bodyOf Try.f73))))))))) value_alike_H1 (value_alike_H.loops.drop 2) (kBlk 2 (kSeq DR value_alike_sc (value_alike_cf N) (seqR (seqR (seqR (seqR (seqR (bodyOf Try.f73)))))) (value_alike_H.loops.drop 2) (value_alike_fin N)))
def value_alike_B2 (N : Nat) (kind : Int) (l : List T_Value) (t37 : Int)  (K1 : (List T_Value × Int) → Option ((List T_Value) × Bool × Int × Unit)) (e : List T_Value × Int) : Option ((List T_Value) × Bool × Int × Unit) :=
  match e with
  | (out1, t38) =>
    bif decide (t38 < t37) then
      bif inR t38 l.length then
      bif (kind == 2) then
        (value_dec N (nthD l t38 d_Value)).bind fun (r1 : T_Value × Int × Unit) =>
        bif (r1.2.1 != 0) then
          some ([], false, r1.2.1, ())
        else
          bif fits (out1.length + ([(kind, r1.1.2.1, [], ())] : List T_Value).length) 4398046511104 then
          bif inI64 (t38 + 1) then
          K1 ((out1 ++ ([(kind, r1.1.2.1, [], ())] : List T_Value)), t38 + 1)
          else none
          else none
      else
        bif fits (out1.length + ([(kind, (nthD l t38 d_Value).2.1, [], ())] : List T_Value).length) 4398046511104 then
        bif inI64 (t38 + 1) then
        K1 ((out1 ++ ([(kind, (nthD l t38 d_Value).2.1, [], ())] : List T_Value)), t38 + 1)
        else none
        else none
      else none
    else
      some (out1, false, 0, ())
theorem value_alike_l2 (N : Nat) (kind : Int) (l : List T_Value) (t37 : Int)  (n : Nat) (e : List T_Value × Int) : iterF (value_alike_R2 N ) n ((value_alike_E2 kind l t37) e) ((value_alike_S2 kind l t37) e) = iter (value_alike_B2 N kind l t37 ) n e :=
  loop_iter (value_alike_E2 kind l t37) (value_alike_S2 kind l t37) (by intro K e; obtain ⟨out1, t38⟩ := e; kernel_rfl) n e
noncomputable def value_alike_R1 (N : Nat)  : (List TV → List TOb → Option ((List T_Value) × Bool × Int × Unit)) → List TV → List TOb → Option ((List T_Value) × Bool × Int × Unit) := rawL DR value_alike_sc (value_alike_cf N) (lopB (blkB (seqR (seqL (seqR (seqR (bodyOf Try.f73))))))) value_alike_H0 (value_alike_H.loops.drop 1) (kBlk 0 (kSeq DR value_alike_sc (value_alike_cf N) (seqR (seqR (seqR (bodyOf Try.f73)))) (value_alike_H.loops.drop 1) (value_alike_fin N)))
def value_alike_B1t (N : Nat) (l : List T_Value) (out : List T_Value) (t11 : Int)  (l2 : Int → (List T_Value) → Int → (List T_Value × Int) → Option ((List T_Value) × Bool × Int × Unit)) (K0 : (Bool × Int × Int) → Option ((List T_Value) × Bool × Int × Unit)) (e : Bool × Int × Int) : Option ((List T_Value) × Bool × Int × Unit) :=
  match e with
  | (null, kind, t12) =>
    bif decide (t12 < t11) then
      bif inR t12 l.length then
      (value_isNumber N (nthD l t12 d_Value)).bind fun (r : Bool) =>
      bif (!r) then
        bif (((nthD l t12 d_Value).1) != 0) then
          some ([], false, 8, ())
        else
          bif null then
            bif inI64 (t12 + 1) then
            K0 (true, (iMax kind ((nthD l t12 d_Value).1)), t12 + 1)
            else none
          else
            bif inI64 (t12 + 1) then
            K0 ((((nthD l t12 d_Value).1) == 0), (iMax kind ((nthD l t12 d_Value).1)), t12 + 1)
            else none
      else
        bif null then
          bif inI64 (t12 + 1) then
          K0 (true, (iMax kind ((nthD l t12 d_Value).1)), t12 + 1)
          else none
        else
          bif inI64 (t12 + 1) then
          K0 ((((nthD l t12 d_Value).1) == 0), (iMax kind ((nthD l t12 d_Value).1)), t12 + 1)
          else none
      else none
    else
      bif null then
        some ([], true, 0, ())
      else
        l2 kind l (l.length : Int) (out, 0)
def value_alike_B1 (N : Nat) (l : List T_Value) (out : List T_Value) (t11 : Int)  (K0 : (Bool × Int × Int) → Option ((List T_Value) × Bool × Int × Unit)) (e : Bool × Int × Int) : Option ((List T_Value) × Bool × Int × Unit) := value_alike_B1t N l out t11  (fun (kind : Int) (l : List T_Value) (t37 : Int) (e : List T_Value × Int) => iter (value_alike_B2 N kind l t37) N e) K0 e
theorem value_alike_l1 (N : Nat) (l : List T_Value) (out : List T_Value) (t11 : Int)  (n : Nat) (e : Bool × Int × Int) : iterF (value_alike_R1 N ) n ((value_alike_E1 l out t11) e) ((value_alike_S1 l out t11) e) = iter (value_alike_B1 N l out t11 ) n e :=
  loop_iter (value_alike_E1 l out t11) (value_alike_S1 l out t11) (by
    intro K e
    have h : (value_alike_R1 N ) K ((value_alike_E1 l out t11) e) ((value_alike_S1 l out t11) e) = value_alike_B1t N l out t11  (fun (kind : Int) (l : List T_Value) (t37 : Int) (e : List T_Value × Int) => iterF (value_alike_R2 N ) N (value_alike_E2 kind l t37 e) (value_alike_S2 kind l t37 e)) (fun e => K ((value_alike_E1 l out t11) e) ((value_alike_S1 l out t11) e)) e := by obtain ⟨null, kind, t12⟩ := e; kernel_rfl
    rw [h]
    simp only [value_alike_B1, value_alike_l2] <;> rfl) n e
def value_alike_t (N : Nat) (l : List T_Value) (l1 : (List T_Value) → (List T_Value) → Int → (Bool × Int × Int) → Option ((List T_Value) × Bool × Int × Unit)) : Option ((List T_Value) × Bool × Int × Unit) :=
  l1 l [] (l.length : Int) (false, 1, 0)
def value_alike (N : Nat) (l : List T_Value) : Option ((List T_Value) × Bool × Int × Unit) := value_alike_t N l (fun (l : List T_Value) (out : List T_Value) (t11 : Int) (e : Bool × Int × Int) => iter (value_alike_B1 N l out t11) N e)
noncomputable def value_alike_C (N : Nat) (l : List T_Value) : Option (RT [(.list t_Value), .bool, (.int .i64)]) := callBody DR Try.prog N (value_alike_T N) value_alike_H Try.f73 (bodyOf Try.f73) (RT [(.list t_Value), .bool, (.int .i64)]) (encA [(.list t_Value)] (l, ())) [] (kPure [(.list t_Value), .bool, (.int .i64)])
theorem value_alike_run (N : Nat) (l : List T_Value) : value_alike_C N l = value_alike N l := by
  have h : value_alike_C N l = value_alike_t N l (fun (l : List T_Value) (out : List T_Value) (t11 : Int) (e : Bool × Int × Int) => iterF (value_alike_R1 N ) N (value_alike_E1 l out t11 e) (value_alike_S1 l out t11 e)) := by kernel_rfl
  rw [h]
  simp only [value_alike, value_alike_l1] <;> rfl
def value_alike_entO (m : (List T_Value) → Option ((List T_Value) × Bool × Int × Unit)) : Ent := specEnt [(.list t_Value)] [(.list t_Value), .bool, (.int .i64)] fun (x : Els [(.list t_Value)]) => m x.1
def value_alike_ent (N : Nat) : Ent := value_alike_entO (value_alike N)
theorem value_alike_sound (N : Nat) : EntSound Try.prog 73 (value_alike_ent N) := specEnt_sound (value_alike_Ts N) Try.func73 rfl (by kernel_rfl) fun (x : Els [(.list t_Value)]) => value_alike_run N x.1
noncomputable def value_do_1_i_T (N : Nat) : CallT := tab []
theorem value_do_1_i_Ts (N : Nat) : CallSound Try.prog (value_do_1_i_T N) := tab_nil _
noncomputable def value_do_1_i_ent (N : Nat) : Ent := inlEnt Try.prog N (value_do_1_i_T N) ⟨[], [], [], [], false, [], []⟩ Try.f74 (bodyOf Try.f74)
theorem value_do_1_i_sound (N : Nat) : EntSound Try.prog 74 (value_do_1_i_ent N) := inlEnt_sound (value_do_1_i_Ts N) Try.func74 rfl (by kernel_rfl)
def value_do_H : FH := ⟨[], [], [(8, ⟨16, 54, 0, [], []⟩)], [], false, [], []⟩
noncomputable def value_do_T (N : Nat) : CallT := tab [(73, value_alike_ent N), (7, num_Add_ent N), (74, value_do_1_i_ent N)]
theorem value_do_Ts (N : Nat) : CallSound Try.prog (value_do_T N) := tab_cons (value_alike_sound N) <| tab_cons (num_Add_sound N) <| tab_cons (value_do_1_i_sound N) <| tab_nil _
def value_do (N : Nat) (a : T_Value) (b : T_Value) : Option (T_Value × Int × Unit) :=
  (value_alike N ([a, b] : List T_Value)).bind fun (r : (List T_Value) × Bool × Int × Unit) =>
  bif r.2.1 then
    some ((0, 0, [], ()), r.2.2.1, ())
  else
    bif (r.2.2.1 != 0) then
      some ((0, 0, [], ()), r.2.2.1, ())
    else
      bif inR 0 r.1.length then
      bif (((nthD r.1 0 d_Value).1) == 2) then
        bif inR 0 r.1.length then
        bif inR 1 r.1.length then
        (num_Add N ((nthD r.1 0 d_Value).2.1) ((nthD r.1 1 d_Value).2.1)).bind fun (r1 : Int × Int × Unit) =>
        bif (r1.2.1 != 0) then
          some ((0, 0, [], ()), r1.2.1, ())
        else
          bif inR 0 r.1.length then
          some (((nthD r.1 0 d_Value).1, r1.1, [], ()), 0, ())
          else none
        else none
        else none
      else
        bif inR 0 r.1.length then
        bif inR 1 r.1.length then
        (num_Add N ((nthD r.1 0 d_Value).2.1) ((nthD r.1 1 d_Value).2.1)).bind fun (r2 : Int × Int × Unit) =>
        bif (r2.2.1 != 0) then
          some ((0, 0, [], ()), r2.2.1, ())
        else
          bif inR 0 r.1.length then
          some (((nthD r.1 0 d_Value).1, r2.1, [], ()), 0, ())
          else none
        else none
        else none
      else none
abbrev value_do_ps : List PK := [.val t_Value, .val t_Value, .fn 7 0, .fn 7 0]
noncomputable def value_do_C (N : Nat) (a : T_Value) (b : T_Value) : Option (RT [t_Value, (.int .i64)]) := callBody DR Try.prog N (value_do_T N) value_do_H Try.f59 (bodyOf Try.f59) (RT [t_Value, (.int .i64)]) (encA2 value_do_ps (a, b, ())) [] (kPure [t_Value, (.int .i64)])
theorem value_do_run (N : Nat) (a : T_Value) (b : T_Value) : value_do_C N a b = value_do N a b := by kernel_rfl
def value_do_entO (m : T_Value → T_Value → Option (T_Value × Int × Unit)) : Ent := patEnt value_do_ps [t_Value, (.int .i64)] fun (x : Els [t_Value, t_Value]) => m x.1 x.2.1
def value_do_ent (N : Nat) : Ent := value_do_entO (value_do N)
theorem value_do_sound (N : Nat) : EntSound Try.prog 59 (value_do_ent N) := patEnt_sound (value_do_Ts N) Try.func59 rfl (by kernel_rfl) (by kernel_rfl) fun (x : Els [t_Value, t_Value]) => value_do_run N x.1 x.2.1
def value_Add_H : FH := ⟨[], [], [], [], false, [], []⟩
noncomputable def value_Add_T (N : Nat) : CallT := tab [(59, value_do_ent N)]
theorem value_Add_Ts (N : Nat) : CallSound Try.prog (value_Add_T N) := tab_cons (value_do_sound N) <| tab_nil _
def value_Add (N : Nat) (a : T_Value) (b : T_Value) : Option (T_Value × Int × Unit) :=
  (value_do N a b).bind fun (r : T_Value × Int × Unit) =>
  some r
noncomputable def value_Add_C (N : Nat) (a : T_Value) (b : T_Value) : Option (RT [t_Value, (.int .i64)]) := callBody DR Try.prog N (value_Add_T N) value_Add_H Try.f34 (bodyOf Try.f34) (RT [t_Value, (.int .i64)]) (encA [t_Value, t_Value] (a, b, ())) [] (kPure [t_Value, (.int .i64)])
theorem value_Add_run (N : Nat) (a : T_Value) (b : T_Value) : value_Add_C N a b = value_Add N a b := by kernel_rfl
def value_Add_entO (m : T_Value → T_Value → Option (T_Value × Int × Unit)) : Ent := specEnt [t_Value, t_Value] [t_Value, (.int .i64)] fun (x : Els [t_Value, t_Value]) => m x.1 x.2.1
def value_Add_ent (N : Nat) : Ent := value_Add_entO (value_Add N)
theorem value_Add_sound (N : Nat) : EntSound Try.prog 34 (value_Add_ent N) := specEnt_sound (value_Add_Ts N) Try.func34 rfl (by kernel_rfl) fun (x : Els [t_Value, t_Value]) => value_Add_run N x.1 x.2.1
def value_units_H : FH := ⟨[], [], [], [], false, [], []⟩
noncomputable def value_units_T (N : Nat) : CallT := tab [(40, bits_Mul64_ent N)]
theorem value_units_Ts (N : Nat) : CallSound Try.prog (value_units_T N) := tab_cons (bits_Mul64_sound N) <| tab_nil _
def value_units (N : Nat) (v : T_Value) : Option (Bool × Int × Int × Unit) :=
  bif decide (v.2.1 < 0) then
    bif (v.1 == 1) then
      (bits_Mul64 N (IntKind.u64.wrap (0 - (IntKind.u64.wrap v.2.1))) 10000).bind fun (r : Int × Int × Unit) =>
      some (decide (v.2.1 < 0), r.1, r.2.1, ())
    else
      (bits_Mul64 N (IntKind.u64.wrap (0 - (IntKind.u64.wrap v.2.1))) 1).bind fun (r1 : Int × Int × Unit) =>
      some (decide (v.2.1 < 0), r1.1, r1.2.1, ())
  else
    bif (v.1 == 1) then
      (bits_Mul64 N (IntKind.u64.wrap v.2.1) 10000).bind fun (r2 : Int × Int × Unit) =>
      some (decide (v.2.1 < 0), r2.1, r2.2.1, ())
    else
      (bits_Mul64 N (IntKind.u64.wrap v.2.1) 1).bind fun (r3 : Int × Int × Unit) =>
      some (decide (v.2.1 < 0), r3.1, r3.2.1, ())
noncomputable def value_units_C (N : Nat) (v : T_Value) : Option (RT [.bool, (.int .u64), (.int .u64)]) := callBody DR Try.prog N (value_units_T N) value_units_H Try.f57 (bodyOf Try.f57) (RT [.bool, (.int .u64), (.int .u64)]) (encA [t_Value] (v, ())) [] (kPure [.bool, (.int .u64), (.int .u64)])
theorem value_units_run (N : Nat) (v : T_Value) : value_units_C N v = value_units N v := by kernel_rfl
def value_units_entO (m : T_Value → Option (Bool × Int × Int × Unit)) : Ent := specEnt [t_Value] [.bool, (.int .u64), (.int .u64)] fun (x : Els [t_Value]) => m x.1
def value_units_ent (N : Nat) : Ent := value_units_entO (value_units N)
theorem value_units_sound (N : Nat) : EntSound Try.prog 57 (value_units_ent N) := specEnt_sound (value_units_Ts N) Try.func57 rfl (by kernel_rfl) fun (x : Els [t_Value]) => value_units_run N x.1
def cmp_isNaN_uint64_H : FH := ⟨[], [], [], [], false, [], []⟩
noncomputable def cmp_isNaN_uint64_T (N : Nat) : CallT := tab []
theorem cmp_isNaN_uint64_Ts (N : Nat) : CallSound Try.prog (cmp_isNaN_uint64_T N) := tab_nil _
def cmp_isNaN_uint64 (N : Nat) (x : Int) : Option Bool :=
  some (x != x)
noncomputable def cmp_isNaN_uint64_C (N : Nat) (x : Int) : Option (RT [.bool]) := callBody DR Try.prog N (cmp_isNaN_uint64_T N) cmp_isNaN_uint64_H Try.f72 (bodyOf Try.f72) (RT [.bool]) (encA [(.int .u64)] (x, ())) [] (kPure [.bool])
theorem cmp_isNaN_uint64_run (N : Nat) (x : Int) : cmp_isNaN_uint64_C N x = cmp_isNaN_uint64 N x := by kernel_rfl
def cmp_isNaN_uint64_entO (m : Int → Option Bool) : Ent := specEnt [(.int .u64)] [.bool] fun (x : Els [(.int .u64)]) => m x.1
def cmp_isNaN_uint64_ent (N : Nat) : Ent := cmp_isNaN_uint64_entO (cmp_isNaN_uint64 N)
theorem cmp_isNaN_uint64_sound (N : Nat) : EntSound Try.prog 72 (cmp_isNaN_uint64_ent N) := specEnt_sound (cmp_isNaN_uint64_Ts N) Try.func72 rfl (by kernel_rfl) fun (x : Els [(.int .u64)]) => cmp_isNaN_uint64_run N x.1
def cmp_Compare_uint64_H : FH := ⟨[], [], [], [], false, [], []⟩
noncomputable def cmp_Compare_uint64_T (N : Nat) : CallT := tab [(72, cmp_isNaN_uint64_ent N)]
theorem cmp_Compare_uint64_Ts (N : Nat) : CallSound Try.prog (cmp_Compare_uint64_T N) := tab_cons (cmp_isNaN_uint64_sound N) <| tab_nil _
def cmp_Compare_uint64 (N : Nat) (x : Int) (y : Int) : Option Int :=
  (cmp_isNaN_uint64 N x).bind fun (r : Bool) =>
  (cmp_isNaN_uint64 N y).bind fun (r1 : Bool) =>
  bif r then
    bif r1 then
      some 0
    else
      some (-1)
  else
    bif r1 then
      some 1
    else
      bif decide (x < y) then
        some (-1)
      else
        bif decide (x > y) then
          some 1
        else
          some 0
noncomputable def cmp_Compare_uint64_C (N : Nat) (x : Int) (y : Int) : Option (RT [(.int .i64)]) := callBody DR Try.prog N (cmp_Compare_uint64_T N) cmp_Compare_uint64_H Try.f58 (bodyOf Try.f58) (RT [(.int .i64)]) (encA [(.int .u64), (.int .u64)] (x, y, ())) [] (kPure [(.int .i64)])
theorem cmp_Compare_uint64_run (N : Nat) (x : Int) (y : Int) : cmp_Compare_uint64_C N x y = cmp_Compare_uint64 N x y := by kernel_rfl
def cmp_Compare_uint64_entO (m : Int → Int → Option Int) : Ent := specEnt [(.int .u64), (.int .u64)] [(.int .i64)] fun (x : Els [(.int .u64), (.int .u64)]) => m x.1 x.2.1
def cmp_Compare_uint64_ent (N : Nat) : Ent := cmp_Compare_uint64_entO (cmp_Compare_uint64 N)
theorem cmp_Compare_uint64_sound (N : Nat) : EntSound Try.prog 58 (cmp_Compare_uint64_ent N) := specEnt_sound (cmp_Compare_uint64_Ts N) Try.func58 rfl (by kernel_rfl) fun (x : Els [(.int .u64), (.int .u64)]) => cmp_Compare_uint64_run N x.1 x.2.1
def cmp_Or_int_H0 : LH := ⟨[(3, .int .i64), (6, .lst (.int .i64)), (7, .int .i64), (8, .int .i64)], [], []⟩
def cmp_Or_int_H : FH := ⟨[cmp_Or_int_H0], [], [], [], false, [], []⟩
noncomputable def cmp_Or_int_T (N : Nat) : CallT := tab []
theorem cmp_Or_int_Ts (N : Nat) : CallSound Try.prog (cmp_Or_int_T N) := tab_nil _
noncomputable def cmp_Or_int_sc : Sc := scOf Try.prog cmp_Or_int_H
noncomputable def cmp_Or_int_cf (N : Nat) : Cfg := ⟨N, cmp_Or_int_T N, 0⟩
noncomputable def cmp_Or_int_fin (N : Nat) : Exit → List TV → List TOb → Option Int := fin Try.prog 0 Try.f52.results.toList (kPure [(.int .i64)])
def cmp_Or_int_E1 (zero : Int) (vals : List Int) (t7 : Int) (e : Int) : List TV := match e with
  | t8 => frm 18 [(3, .int .i64 zero), (6, .tl (.int .i64) vals .unk), (7, .int .i64 t7), (8, .int .i64 t8)]
def cmp_Or_int_S1 (zero : Int) (vals : List Int) (t7 : Int) (e : Int) : List TOb := match e with
  | t8 => []
noncomputable def cmp_Or_int_R1 (N : Nat)  : (List TV → List TOb → Option Int) → List TV → List TOb → Option Int := rawL DR cmp_Or_int_sc (cmp_Or_int_cf N) (lopB (blkB (seqR (seqL (seqR (seqR (bodyOf Try.f52))))))) cmp_Or_int_H0 (cmp_Or_int_H.loops.drop 1) (kBlk 0 (kSeq DR cmp_Or_int_sc (cmp_Or_int_cf N) (seqR (seqR (seqR (bodyOf Try.f52)))) (cmp_Or_int_H.loops.drop 1) (cmp_Or_int_fin N)))
def cmp_Or_int_B1 (N : Nat) (zero : Int) (vals : List Int) (t7 : Int)  (K0 : Int → Option Int) (e : Int) : Option Int :=
  match e with
  | t8 =>
    bif decide (t8 < t7) then
      bif inR t8 vals.length then
      bif ((nthD vals t8 0) != zero) then
        some (nthD vals t8 0)
      else
        bif inI64 (t8 + 1) then
        K0 (t8 + 1)
        else none
      else none
    else
      some zero
theorem cmp_Or_int_l1 (N : Nat) (zero : Int) (vals : List Int) (t7 : Int)  (n : Nat) (e : Int) : iterF (cmp_Or_int_R1 N ) n ((cmp_Or_int_E1 zero vals t7) e) ((cmp_Or_int_S1 zero vals t7) e) = iter (cmp_Or_int_B1 N zero vals t7 ) n e :=
  loop_iter (cmp_Or_int_E1 zero vals t7) (cmp_Or_int_S1 zero vals t7) (by intro K e; kernel_rfl) n e
def cmp_Or_int_t (N : Nat) (vals : List Int) (l1 : Int → (List Int) → Int → Int → Option Int) : Option Int :=
  l1 0 vals (vals.length : Int) 0
def cmp_Or_int (N : Nat) (vals : List Int) : Option Int := cmp_Or_int_t N vals (fun (zero : Int) (vals : List Int) (t7 : Int) (e : Int) => iter (cmp_Or_int_B1 N zero vals t7) N e)
noncomputable def cmp_Or_int_C (N : Nat) (vals : List Int) : Option (RT [(.int .i64)]) := callBody DR Try.prog N (cmp_Or_int_T N) cmp_Or_int_H Try.f52 (bodyOf Try.f52) (RT [(.int .i64)]) (encA [(.list (.int .i64))] (vals, ())) [] (kPure [(.int .i64)])
theorem cmp_Or_int_run (N : Nat) (vals : List Int) : cmp_Or_int_C N vals = cmp_Or_int N vals := by
  have h : cmp_Or_int_C N vals = cmp_Or_int_t N vals (fun (zero : Int) (vals : List Int) (t7 : Int) (e : Int) => iterF (cmp_Or_int_R1 N ) N (cmp_Or_int_E1 zero vals t7 e) (cmp_Or_int_S1 zero vals t7 e)) := by kernel_rfl
  rw [h]
  simp only [cmp_Or_int, cmp_Or_int_l1] <;> rfl
def cmp_Or_int_entO (m : (List Int) → Option Int) : Ent := specEnt [(.list (.int .i64))] [(.int .i64)] fun (x : Els [(.list (.int .i64))]) => m x.1
def cmp_Or_int_ent (N : Nat) : Ent := cmp_Or_int_entO (cmp_Or_int N)
theorem cmp_Or_int_sound (N : Nat) : EntSound Try.prog 52 (cmp_Or_int_ent N) := specEnt_sound (cmp_Or_int_Ts N) Try.func52 rfl (by kernel_rfl) fun (x : Els [(.list (.int .i64))]) => cmp_Or_int_run N x.1
def cmp_isNaN_uint8_H : FH := ⟨[], [], [], [], false, [], []⟩
noncomputable def cmp_isNaN_uint8_T (N : Nat) : CallT := tab []
theorem cmp_isNaN_uint8_Ts (N : Nat) : CallSound Try.prog (cmp_isNaN_uint8_T N) := tab_nil _
def cmp_isNaN_uint8 (N : Nat) (x : Int) : Option Bool :=
  some (x != x)
noncomputable def cmp_isNaN_uint8_C (N : Nat) (x : Int) : Option (RT [.bool]) := callBody DR Try.prog N (cmp_isNaN_uint8_T N) cmp_isNaN_uint8_H Try.f69 (bodyOf Try.f69) (RT [.bool]) (encA [(.int .u8)] (x, ())) [] (kPure [.bool])
theorem cmp_isNaN_uint8_run (N : Nat) (x : Int) : cmp_isNaN_uint8_C N x = cmp_isNaN_uint8 N x := by kernel_rfl
def cmp_isNaN_uint8_entO (m : Int → Option Bool) : Ent := specEnt [(.int .u8)] [.bool] fun (x : Els [(.int .u8)]) => m x.1
def cmp_isNaN_uint8_ent (N : Nat) : Ent := cmp_isNaN_uint8_entO (cmp_isNaN_uint8 N)
theorem cmp_isNaN_uint8_sound (N : Nat) : EntSound Try.prog 69 (cmp_isNaN_uint8_ent N) := specEnt_sound (cmp_isNaN_uint8_Ts N) Try.func69 rfl (by kernel_rfl) fun (x : Els [(.int .u8)]) => cmp_isNaN_uint8_run N x.1
def cmp_Compare_uint8_H : FH := ⟨[], [], [], [], false, [], []⟩
noncomputable def cmp_Compare_uint8_T (N : Nat) : CallT := tab [(69, cmp_isNaN_uint8_ent N)]
theorem cmp_Compare_uint8_Ts (N : Nat) : CallSound Try.prog (cmp_Compare_uint8_T N) := tab_cons (cmp_isNaN_uint8_sound N) <| tab_nil _
def cmp_Compare_uint8 (N : Nat) (x : Int) (y : Int) : Option Int :=
  (cmp_isNaN_uint8 N x).bind fun (r : Bool) =>
  (cmp_isNaN_uint8 N y).bind fun (r1 : Bool) =>
  bif r then
    bif r1 then
      some 0
    else
      some (-1)
  else
    bif r1 then
      some 1
    else
      bif decide (x < y) then
        some (-1)
      else
        bif decide (x > y) then
          some 1
        else
          some 0
noncomputable def cmp_Compare_uint8_C (N : Nat) (x : Int) (y : Int) : Option (RT [(.int .i64)]) := callBody DR Try.prog N (cmp_Compare_uint8_T N) cmp_Compare_uint8_H Try.f53 (bodyOf Try.f53) (RT [(.int .i64)]) (encA [(.int .u8), (.int .u8)] (x, y, ())) [] (kPure [(.int .i64)])
theorem cmp_Compare_uint8_run (N : Nat) (x : Int) (y : Int) : cmp_Compare_uint8_C N x y = cmp_Compare_uint8 N x y := by kernel_rfl
def cmp_Compare_uint8_entO (m : Int → Int → Option Int) : Ent := specEnt [(.int .u8), (.int .u8)] [(.int .i64)] fun (x : Els [(.int .u8), (.int .u8)]) => m x.1 x.2.1
def cmp_Compare_uint8_ent (N : Nat) : Ent := cmp_Compare_uint8_entO (cmp_Compare_uint8 N)
theorem cmp_Compare_uint8_sound (N : Nat) : EntSound Try.prog 53 (cmp_Compare_uint8_ent N) := specEnt_sound (cmp_Compare_uint8_Ts N) Try.func53 rfl (by kernel_rfl) fun (x : Els [(.int .u8), (.int .u8)]) => cmp_Compare_uint8_run N x.1 x.2.1
def cmp_isNaN_int64_H : FH := ⟨[], [], [], [], false, [], []⟩
noncomputable def cmp_isNaN_int64_T (N : Nat) : CallT := tab []
theorem cmp_isNaN_int64_Ts (N : Nat) : CallSound Try.prog (cmp_isNaN_int64_T N) := tab_nil _
def cmp_isNaN_int64 (N : Nat) (x : Int) : Option Bool :=
  some (x != x)
noncomputable def cmp_isNaN_int64_C (N : Nat) (x : Int) : Option (RT [.bool]) := callBody DR Try.prog N (cmp_isNaN_int64_T N) cmp_isNaN_int64_H Try.f70 (bodyOf Try.f70) (RT [.bool]) (encA [(.int .i64)] (x, ())) [] (kPure [.bool])
theorem cmp_isNaN_int64_run (N : Nat) (x : Int) : cmp_isNaN_int64_C N x = cmp_isNaN_int64 N x := by kernel_rfl
def cmp_isNaN_int64_entO (m : Int → Option Bool) : Ent := specEnt [(.int .i64)] [.bool] fun (x : Els [(.int .i64)]) => m x.1
def cmp_isNaN_int64_ent (N : Nat) : Ent := cmp_isNaN_int64_entO (cmp_isNaN_int64 N)
theorem cmp_isNaN_int64_sound (N : Nat) : EntSound Try.prog 70 (cmp_isNaN_int64_ent N) := specEnt_sound (cmp_isNaN_int64_Ts N) Try.func70 rfl (by kernel_rfl) fun (x : Els [(.int .i64)]) => cmp_isNaN_int64_run N x.1
def cmp_Compare_int64_H : FH := ⟨[], [], [], [], false, [], []⟩
noncomputable def cmp_Compare_int64_T (N : Nat) : CallT := tab [(70, cmp_isNaN_int64_ent N)]
theorem cmp_Compare_int64_Ts (N : Nat) : CallSound Try.prog (cmp_Compare_int64_T N) := tab_cons (cmp_isNaN_int64_sound N) <| tab_nil _
def cmp_Compare_int64 (N : Nat) (x : Int) (y : Int) : Option Int :=
  (cmp_isNaN_int64 N x).bind fun (r : Bool) =>
  (cmp_isNaN_int64 N y).bind fun (r1 : Bool) =>
  bif r then
    bif r1 then
      some 0
    else
      some (-1)
  else
    bif r1 then
      some 1
    else
      bif decide (x < y) then
        some (-1)
      else
        bif decide (x > y) then
          some 1
        else
          some 0
noncomputable def cmp_Compare_int64_C (N : Nat) (x : Int) (y : Int) : Option (RT [(.int .i64)]) := callBody DR Try.prog N (cmp_Compare_int64_T N) cmp_Compare_int64_H Try.f54 (bodyOf Try.f54) (RT [(.int .i64)]) (encA [(.int .i64), (.int .i64)] (x, y, ())) [] (kPure [(.int .i64)])
theorem cmp_Compare_int64_run (N : Nat) (x : Int) (y : Int) : cmp_Compare_int64_C N x y = cmp_Compare_int64 N x y := by kernel_rfl
def cmp_Compare_int64_entO (m : Int → Int → Option Int) : Ent := specEnt [(.int .i64), (.int .i64)] [(.int .i64)] fun (x : Els [(.int .i64), (.int .i64)]) => m x.1 x.2.1
def cmp_Compare_int64_ent (N : Nat) : Ent := cmp_Compare_int64_entO (cmp_Compare_int64 N)
theorem cmp_Compare_int64_sound (N : Nat) : EntSound Try.prog 54 (cmp_Compare_int64_ent N) := specEnt_sound (cmp_Compare_int64_Ts N) Try.func54 rfl (by kernel_rfl) fun (x : Els [(.int .i64), (.int .i64)]) => cmp_Compare_int64_run N x.1 x.2.1
def cmp_isNaN_string_H : FH := ⟨[], [], [], [], false, [], []⟩
noncomputable def cmp_isNaN_string_T (N : Nat) : CallT := tab []
theorem cmp_isNaN_string_Ts (N : Nat) : CallSound Try.prog (cmp_isNaN_string_T N) := tab_nil _
def cmp_isNaN_string (N : Nat) (x : List UInt8) : Option Bool :=
  some (!(x == x))
noncomputable def cmp_isNaN_string_C (N : Nat) (x : List UInt8) : Option (RT [.bool]) := callBody DR Try.prog N (cmp_isNaN_string_T N) cmp_isNaN_string_H Try.f71 (bodyOf Try.f71) (RT [.bool]) (encA [.str] (x, ())) [] (kPure [.bool])
theorem cmp_isNaN_string_run (N : Nat) (x : List UInt8) : cmp_isNaN_string_C N x = cmp_isNaN_string N x := by kernel_rfl
def cmp_isNaN_string_entO (m : (List UInt8) → Option Bool) : Ent := specEnt [.str] [.bool] fun (x : Els [.str]) => m x.1
def cmp_isNaN_string_ent (N : Nat) : Ent := cmp_isNaN_string_entO (cmp_isNaN_string N)
theorem cmp_isNaN_string_sound (N : Nat) : EntSound Try.prog 71 (cmp_isNaN_string_ent N) := specEnt_sound (cmp_isNaN_string_Ts N) Try.func71 rfl (by kernel_rfl) fun (x : Els [.str]) => cmp_isNaN_string_run N x.1
def cmp_Compare_string_H : FH := ⟨[], [], [], [], false, [], []⟩
noncomputable def cmp_Compare_string_T (N : Nat) : CallT := tab [(71, cmp_isNaN_string_ent N)]
theorem cmp_Compare_string_Ts (N : Nat) : CallSound Try.prog (cmp_Compare_string_T N) := tab_cons (cmp_isNaN_string_sound N) <| tab_nil _
def cmp_Compare_string (N : Nat) (x : List UInt8) (y : List UInt8) : Option Int :=
  (cmp_isNaN_string N x).bind fun (r : Bool) =>
  (cmp_isNaN_string N y).bind fun (r1 : Bool) =>
  bif r then
    bif r1 then
      some 0
    else
      some (-1)
  else
    bif r1 then
      some 1
    else
      bif (Op.bytesLess x y) then
        some (-1)
      else
        bif (!(Op.bytesLess x y || x == y)) then
          some 1
        else
          some 0
noncomputable def cmp_Compare_string_C (N : Nat) (x : List UInt8) (y : List UInt8) : Option (RT [(.int .i64)]) := callBody DR Try.prog N (cmp_Compare_string_T N) cmp_Compare_string_H Try.f55 (bodyOf Try.f55) (RT [(.int .i64)]) (encA [.str, .str] (x, y, ())) [] (kPure [(.int .i64)])
theorem cmp_Compare_string_run (N : Nat) (x : List UInt8) (y : List UInt8) : cmp_Compare_string_C N x y = cmp_Compare_string N x y := by kernel_rfl
def cmp_Compare_string_entO (m : (List UInt8) → (List UInt8) → Option Int) : Ent := specEnt [.str, .str] [(.int .i64)] fun (x : Els [.str, .str]) => m x.1 x.2.1
def cmp_Compare_string_ent (N : Nat) : Ent := cmp_Compare_string_entO (cmp_Compare_string N)
theorem cmp_Compare_string_sound (N : Nat) : EntSound Try.prog 55 (cmp_Compare_string_ent N) := specEnt_sound (cmp_Compare_string_Ts N) Try.func55 rfl (by kernel_rfl) fun (x : Els [.str, .str]) => cmp_Compare_string_run N x.1 x.2.1
def value_Order_H : FH := ⟨[], [], [(1, ⟨14, 22, 0, [], []⟩)], [], false, [], []⟩
noncomputable def value_Order_T (N : Nat) : CallT := tab [(53, cmp_Compare_uint8_ent N), (54, cmp_Compare_int64_ent N), (55, cmp_Compare_string_ent N), (52, cmp_Or_int_ent N)]
theorem value_Order_Ts (N : Nat) : CallSound Try.prog (value_Order_T N) := tab_cons (cmp_Compare_uint8_sound N) <| tab_cons (cmp_Compare_int64_sound N) <| tab_cons (cmp_Compare_string_sound N) <| tab_cons (cmp_Or_int_sound N) <| tab_nil _
def value_Order (N : Nat) (a : T_Value) (b : T_Value) : Option Int :=
  (cmp_Compare_uint8 N a.1 b.1).bind fun (r : Int) =>
  (cmp_Compare_int64 N a.2.1 b.2.1).bind fun (r1 : Int) =>
  (cmp_Compare_string N a.2.2.1 b.2.2.1).bind fun (r2 : Int) =>
  (cmp_Or_int N [r, r1, r2]).bind fun (r3 : Int) =>
  some r3
noncomputable def value_Order_C (N : Nat) (a : T_Value) (b : T_Value) : Option (RT [(.int .i64)]) := callBody DR Try.prog N (value_Order_T N) value_Order_H Try.f24 (bodyOf Try.f24) (RT [(.int .i64)]) (encA [t_Value, t_Value] (a, b, ())) [] (kPure [(.int .i64)])
theorem value_Order_run (N : Nat) (a : T_Value) (b : T_Value) : value_Order_C N a b = value_Order N a b := by kernel_rfl
def value_Order_entO (m : T_Value → T_Value → Option Int) : Ent := specEnt [t_Value, t_Value] [(.int .i64)] fun (x : Els [t_Value, t_Value]) => m x.1 x.2.1
def value_Order_ent (N : Nat) : Ent := value_Order_entO (value_Order N)
theorem value_Order_sound (N : Nat) : EntSound Try.prog 24 (value_Order_ent N) := specEnt_sound (value_Order_Ts N) Try.func24 rfl (by kernel_rfl) fun (x : Els [t_Value, t_Value]) => value_Order_run N x.1 x.2.1
def value_Compare_H : FH := ⟨[], [], [], [], false, [], [(12, ⟨[(2, .asis), (3, .asis)], [], [.cells [.int .u8, .int .i64, .str], .cells [.int .u8, .int .i64, .str]]⟩)]⟩
noncomputable def value_Compare_T (N : Nat) : CallT := tab [(56, value_isNumber_ent N), (57, value_units_ent N), (58, cmp_Compare_uint64_ent N), (52, cmp_Or_int_ent N), (24, value_Order_ent N)]
theorem value_Compare_Ts (N : Nat) : CallSound Try.prog (value_Compare_T N) := tab_cons (value_isNumber_sound N) <| tab_cons (value_units_sound N) <| tab_cons (cmp_Compare_uint64_sound N) <| tab_cons (cmp_Or_int_sound N) <| tab_cons (value_Order_sound N) <| tab_nil _
noncomputable def value_Compare_sc : Sc := scOf Try.prog value_Compare_H
noncomputable def value_Compare_cf (N : Nat) : Cfg := ⟨N, value_Compare_T N, 0⟩
noncomputable def value_Compare_fin (N : Nat) : Exit → List TV → List TOb → Option (Int × Bool × Unit) := fin Try.prog 0 Try.f25.results.toList (kPure [(.int .i64), .bool])
def value_Compare_E1 (a_Kind : Int) (a_N : Int) (a_S : List UInt8) (b_Kind : Int) (b_N : Int) (b_S : List UInt8) (e : Unit) : List TV := frm 65 [(2, .ref 0 0), (3, .ref 1 0)]
def value_Compare_S1 (a_Kind : Int) (a_N : Int) (a_S : List UInt8) (b_Kind : Int) (b_N : Int) (b_S : List UInt8) (e : Unit) : List TOb := [.cells [.int .u8 a_Kind, .int .i64 a_N, .str a_S] 37 true, .cells [.int .u8 b_Kind, .int .i64 b_N, .str b_S] 37 true]
noncomputable def value_Compare_R1 (N : Nat)  : List TV → List TOb → Option (Int × Bool × Unit) := rawJ DR value_Compare_sc (value_Compare_cf N) (seqL (seqL (seqR (seqR (bodyOf Try.f25))))) (kSeq DR value_Compare_sc (value_Compare_cf N) (seqR (seqL (seqR (seqR (bodyOf Try.f25))))) (value_Compare_H.loops.drop 0) (kSeq DR value_Compare_sc (value_Compare_cf N) (seqR (seqR (seqR (bodyOf Try.f25)))) (value_Compare_H.loops.drop 0) (value_Compare_fin N)))
def value_Compare_B1 (N : Nat) (a_Kind : Int) (a_N : Int) (a_S : List UInt8) (b_Kind : Int) (b_N : Int) (b_S : List UInt8)   (e : Unit) : Option (Int × Bool × Unit) :=
  bif (a_Kind != b_Kind) then
    some (0, false, ())
  else
    bif decide (a_Kind < 3) then
      some (0, false, ())
    else
      bif decide (a_Kind > 5) then
        some (0, false, ())
      else
        (value_Order N (a_Kind, a_N, a_S, ()) (b_Kind, b_N, b_S, ())).bind fun (r7 : Int) =>
        some (r7, true, ())
theorem value_Compare_l1 (N : Nat) (a_Kind : Int) (a_N : Int) (a_S : List UInt8) (b_Kind : Int) (b_N : Int) (b_S : List UInt8)  (e : Unit) : jmp N (value_Compare_R1 N ) ((value_Compare_E1 a_Kind a_N a_S b_Kind b_N b_S) e) ((value_Compare_S1 a_Kind a_N a_S b_Kind b_N b_S) e) = at1 N (value_Compare_B1 N a_Kind a_N a_S b_Kind b_N b_S  e) := jmp_at (by kernel_rfl) N
def value_Compare_t (N : Nat) (a : T_Value) (b : T_Value) (l1 : Int → Int → (List UInt8) → Int → Int → (List UInt8) → Unit → Option (Int × Bool × Unit)) : Option (Int × Bool × Unit) :=
  (value_isNumber N a).bind fun (r : Bool) =>
  bif r then
    (value_isNumber N b).bind fun (r1 : Bool) =>
    bif r1 then
      (value_units N a).bind fun (r2 : Bool × Int × Int × Unit) =>
      (value_units N b).bind fun (r3 : Bool × Int × Int × Unit) =>
      bif (!(r2.1 == r3.1)) then
        bif r2.1 then
          some ((-1), true, ())
        else
          some (1, true, ())
      else
        (cmp_Compare_uint64 N r2.2.1 r3.2.1).bind fun (r4 : Int) =>
        (cmp_Compare_uint64 N r2.2.2.1 r3.2.2.1).bind fun (r5 : Int) =>
        (cmp_Or_int N [r4, r5]).bind fun (r6 : Int) =>
        bif r2.1 then
          bif inI64 (0 - r6) then
          some (0 - r6, true, ())
          else none
        else
          some (r6, true, ())
    else
      l1 a.1 a.2.1 a.2.2.1 b.1 b.2.1 b.2.2.1 ()
  else
    l1 a.1 a.2.1 a.2.2.1 b.1 b.2.1 b.2.2.1 ()
def value_Compare (N : Nat) (a : T_Value) (b : T_Value) : Option (Int × Bool × Unit) := value_Compare_t N a b (fun (a_Kind : Int) (a_N : Int) (a_S : List UInt8) (b_Kind : Int) (b_N : Int) (b_S : List UInt8) (e : Unit) => at1 N (value_Compare_B1 N a_Kind a_N a_S b_Kind b_N b_S e))
noncomputable def value_Compare_C (N : Nat) (a : T_Value) (b : T_Value) : Option (RT [(.int .i64), .bool]) := callBody DR Try.prog N (value_Compare_T N) value_Compare_H Try.f25 (bodyOf Try.f25) (RT [(.int .i64), .bool]) (encA [t_Value, t_Value] (a, b, ())) [] (kPure [(.int .i64), .bool])
theorem value_Compare_run (N : Nat) (a : T_Value) (b : T_Value) : value_Compare_C N a b = value_Compare N a b := by
  have h : value_Compare_C N a b = value_Compare_t N a b (fun (a_Kind : Int) (a_N : Int) (a_S : List UInt8) (b_Kind : Int) (b_N : Int) (b_S : List UInt8) (e : Unit) => jmp N (value_Compare_R1 N ) (value_Compare_E1 a_Kind a_N a_S b_Kind b_N b_S e) (value_Compare_S1 a_Kind a_N a_S b_Kind b_N b_S e)) := by kernel_rfl
  rw [h]
  simp only [value_Compare, value_Compare_l1] <;> rfl
def value_Compare_entO (m : T_Value → T_Value → Option (Int × Bool × Unit)) : Ent := specEnt [t_Value, t_Value] [(.int .i64), .bool] fun (x : Els [t_Value, t_Value]) => m x.1 x.2.1
def value_Compare_ent (N : Nat) : Ent := value_Compare_entO (value_Compare N)
theorem value_Compare_sound (N : Nat) : EntSound Try.prog 25 (value_Compare_ent N) := specEnt_sound (value_Compare_Ts N) Try.func25 rfl (by kernel_rfl) fun (x : Els [t_Value, t_Value]) => value_Compare_run N x.1 x.2.1
def value_Truth_H : FH := ⟨[], [], [], [], false, [], []⟩
noncomputable def value_Truth_T (N : Nat) : CallT := tab []
theorem value_Truth_Ts (N : Nat) : CallSound Try.prog (value_Truth_T N) := tab_nil _
def value_Truth (N : Nat) (is_ : Bool) : Option T_Value :=
  bif is_ then
    some (4, 1, [], ())
  else
    some (4, 0, [], ())
noncomputable def value_Truth_C (N : Nat) (is_ : Bool) : Option (RT [t_Value]) := callBody DR Try.prog N (value_Truth_T N) value_Truth_H Try.f51 (bodyOf Try.f51) (RT [t_Value]) (encA [.bool] (is_, ())) [] (kPure [t_Value])
theorem value_Truth_run (N : Nat) (is_ : Bool) : value_Truth_C N is_ = value_Truth N is_ := by kernel_rfl
def value_Truth_entO (m : Bool → Option T_Value) : Ent := specEnt [.bool] [t_Value] fun (x : Els [.bool]) => m x.1
def value_Truth_ent (N : Nat) : Ent := value_Truth_entO (value_Truth N)
theorem value_Truth_sound (N : Nat) : EntSound Try.prog 51 (value_Truth_ent N) := specEnt_sound (value_Truth_Ts N) Try.func51 rfl (by kernel_rfl) fun (x : Els [.bool]) => value_Truth_run N x.1
def value_All_H0 : LH := ⟨[(2, .asis), (3, .asis), (7, .lst t_Value), (8, .int .i64), (9, .int .i64)], [], [.cells [.int .u8, .int .i64, .str], .cells [.int .u8, .int .i64, .str]]⟩
def value_All_H : FH := ⟨[value_All_H0], [], [(5, ⟨2, 25, 0, [], []⟩)], [], false, [], []⟩
noncomputable def value_All_T (N : Nat) : CallT := tab [(51, value_Truth_ent N)]
theorem value_All_Ts (N : Nat) : CallSound Try.prog (value_All_T N) := tab_cons (value_Truth_sound N) <| tab_nil _
noncomputable def value_All_sc : Sc := scOf Try.prog value_All_H
noncomputable def value_All_cf (N : Nat) : Cfg := ⟨N, value_All_T N, 0⟩
noncomputable def value_All_fin (N : Nat) : Exit → List TV → List TOb → Option T_Value := fin Try.prog 0 Try.f27.results.toList (kPure [t_Value])
def value_All_E1 (l : List T_Value) (t8 : Int) (t2_Kind : Int) (t2_N : Int) (t2_S : List UInt8) (e : Int × Int × Int × List UInt8) : List TV := match e with
  | (t9, out_Kind, out_N, out_S) => frm 25 [(2, .ref 0 0), (3, .ref 1 0), (7, .tl t_Value l .unk), (8, .int .i64 t8), (9, .int .i64 t9)]
def value_All_S1 (l : List T_Value) (t8 : Int) (t2_Kind : Int) (t2_N : Int) (t2_S : List UInt8) (e : Int × Int × Int × List UInt8) : List TOb := match e with
  | (t9, out_Kind, out_N, out_S) => [.cells [.int .u8 t2_Kind, .int .i64 t2_N, .str t2_S] 37 true, .cells [.int .u8 out_Kind, .int .i64 out_N, .str out_S] 37 true]
noncomputable def value_All_R1 (N : Nat)  : (List TV → List TOb → Option T_Value) → List TV → List TOb → Option T_Value := rawL DR value_All_sc (value_All_cf N) (lopB (blkB (seqR (seqL (seqR (seqR (bodyOf Try.f27))))))) value_All_H0 (value_All_H.loops.drop 1) (kBlk 0 (kSeq DR value_All_sc (value_All_cf N) (seqR (seqR (seqR (bodyOf Try.f27)))) (value_All_H.loops.drop 1) (value_All_fin N)))
def value_All_B1 (N : Nat) (l : List T_Value) (t8 : Int) (t2_Kind : Int) (t2_N : Int) (t2_S : List UInt8)  (K0 : (Int × Int × Int × List UInt8) → Option T_Value) (e : Int × Int × Int × List UInt8) : Option T_Value :=
  match e with
  | (t9, out_Kind, out_N, out_S) =>
    bif decide (t9 < t8) then
      bif inR t9 l.length then
      (value_Truth N false).bind fun (r1 : T_Value) =>
      bif ((((nthD l t9 d_Value).1) == r1.1) && ((((nthD l t9 d_Value).2.1) == r1.2.1) && ((((nthD l t9 d_Value).2.2.1) == r1.2.2.1) && true))) then
        some (nthD l t9 d_Value)
      else
        bif (((nthD l t9 d_Value).1) != 4) then
          bif inI64 (t9 + 1) then
          K0 (t9 + 1, 0, 0, [])
          else none
        else
          bif inI64 (t9 + 1) then
          K0 (t9 + 1, out_Kind, out_N, out_S)
          else none
      else none
    else
      some (out_Kind, out_N, out_S, ())
theorem value_All_l1 (N : Nat) (l : List T_Value) (t8 : Int) (t2_Kind : Int) (t2_N : Int) (t2_S : List UInt8)  (n : Nat) (e : Int × Int × Int × List UInt8) : iterF (value_All_R1 N ) n ((value_All_E1 l t8 t2_Kind t2_N t2_S) e) ((value_All_S1 l t8 t2_Kind t2_N t2_S) e) = iter (value_All_B1 N l t8 t2_Kind t2_N t2_S ) n e :=
  loop_iter (value_All_E1 l t8 t2_Kind t2_N t2_S) (value_All_S1 l t8 t2_Kind t2_N t2_S) (by intro K e; obtain ⟨t9, out_Kind, out_N, out_S⟩ := e; kernel_rfl) n e
def value_All_t (N : Nat) (l : List T_Value) (l1 : (List T_Value) → Int → Int → Int → (List UInt8) → (Int × Int × Int × List UInt8) → Option T_Value) : Option T_Value :=
  (value_Truth N true).bind fun (r : T_Value) =>
  l1 l (l.length : Int) 0 0 [] (0, r.1, r.2.1, r.2.2.1)
def value_All (N : Nat) (l : List T_Value) : Option T_Value := value_All_t N l (fun (l : List T_Value) (t8 : Int) (t2_Kind : Int) (t2_N : Int) (t2_S : List UInt8) (e : Int × Int × Int × List UInt8) => iter (value_All_B1 N l t8 t2_Kind t2_N t2_S) N e)
noncomputable def value_All_C (N : Nat) (l : List T_Value) : Option (RT [t_Value]) := callBody DR Try.prog N (value_All_T N) value_All_H Try.f27 (bodyOf Try.f27) (RT [t_Value]) (encA [(.list t_Value)] (l, ())) [] (kPure [t_Value])
theorem value_All_run (N : Nat) (l : List T_Value) : value_All_C N l = value_All N l := by
  have h : value_All_C N l = value_All_t N l (fun (l : List T_Value) (t8 : Int) (t2_Kind : Int) (t2_N : Int) (t2_S : List UInt8) (e : Int × Int × Int × List UInt8) => iterF (value_All_R1 N ) N (value_All_E1 l t8 t2_Kind t2_N t2_S e) (value_All_S1 l t8 t2_Kind t2_N t2_S e)) := by kernel_rfl
  rw [h]
  simp only [value_All, value_All_l1] <;> rfl
def value_All_entO (m : (List T_Value) → Option T_Value) : Ent := specEnt [(.list t_Value)] [t_Value] fun (x : Els [(.list t_Value)]) => m x.1
def value_All_ent (N : Nat) : Ent := value_All_entO (value_All N)
theorem value_All_sound (N : Nat) : EntSound Try.prog 27 (value_All_ent N) := specEnt_sound (value_All_Ts N) Try.func27 rfl (by kernel_rfl) fun (x : Els [(.list t_Value)]) => value_All_run N x.1
def w2_known_H : FH := ⟨[], [], [(5, ⟨29, 61, 0, [], []⟩)], [], false, [], []⟩
noncomputable def w2_known_T (N : Nat) : CallT := tab [(34, value_Add_ent N), (25, value_Compare_ent N), (51, value_Truth_ent N), (27, value_All_ent N)]
theorem w2_known_Ts (N : Nat) : CallSound Try.prog (w2_known_T N) := tab_cons (value_Add_sound N) <| tab_cons (value_Compare_sound N) <| tab_cons (value_Truth_sound N) <| tab_cons (value_All_sound N) <| tab_nil _
def w2_known (N : Nat)  : Option Bool :=
  (value_Add N (1, 1, [], ()) (2, 5000, [], ())).bind fun (r : T_Value × Int × Unit) =>
  (value_Compare N (1, 2, [], ()) (2, 20000, [], ())).bind fun (r1 : Int × Bool × Unit) =>
  (value_Add N (0, 0, [], ()) (3, 0, [], ())).bind fun (r2 : T_Value × Int × Unit) =>
  bif (r.2.1 == 0) then
    bif ((r.1.1 == (2 : Int)) && ((r.1.2.1 == (15000 : Int)) && ((r.1.2.2.1 == ([] : List UInt8)) && true))) then
      bif (r1.1 == 0) then
        bif r1.2.1 then
          bif (r2.2.1 == 8) then
            (value_Truth N true).bind fun (r3 : T_Value) =>
            (value_All N ([r3, (0, 0, [], ())] : List T_Value)).bind fun (r4 : T_Value) =>
            bif ((r4.1 == (0 : Int)) && ((r4.2.1 == (0 : Int)) && ((r4.2.2.1 == ([] : List UInt8)) && true))) then
              (value_Truth N false).bind fun (r5 : T_Value) =>
              (value_All N ([r5, (0, 0, [], ())] : List T_Value)).bind fun (r6 : T_Value) =>
              (value_Truth N false).bind fun (r7 : T_Value) =>
              some ((r6.1 == r7.1) && ((r6.2.1 == r7.2.1) && ((r6.2.2.1 == r7.2.2.1) && true)))
            else
              some false
          else
            some false
        else
          some false
      else
        some false
    else
      some false
  else
    some false
noncomputable def w2_known_C (N : Nat)  : Option (RT [.bool]) := callBody DR Try.prog N (w2_known_T N) w2_known_H Try.f23 (bodyOf Try.f23) (RT [.bool]) (encA [] (())) [] (kPure [.bool])
theorem w2_known_run (N : Nat)  : w2_known_C N  = w2_known N  := by kernel_rfl
def w2_known_entO (m : Option Bool) : Ent := specEnt [] [.bool] fun (x : Els []) => m 
def w2_known_ent (N : Nat) : Ent := w2_known_entO (w2_known N)
theorem w2_known_sound (N : Nat) : EntSound Try.prog 23 (w2_known_ent N) := specEnt_sound (w2_known_Ts N) Try.func23 rfl (by kernel_rfl) fun (x : Els []) => w2_known_run N 
def value_do_v1_H : FH := ⟨[], [], [(8, ⟨16, 54, 0, [], []⟩)], [], false, [], []⟩
noncomputable def value_do_v1_T (N : Nat) : CallT := tab [(73, value_alike_ent N), (8, num_Sub_ent N), (74, value_do_1_i_ent N)]
theorem value_do_v1_Ts (N : Nat) : CallSound Try.prog (value_do_v1_T N) := tab_cons (value_alike_sound N) <| tab_cons (num_Sub_sound N) <| tab_cons (value_do_1_i_sound N) <| tab_nil _
def value_do_v1 (N : Nat) (a : T_Value) (b : T_Value) : Option (T_Value × Int × Unit) :=
  (value_alike N ([a, b] : List T_Value)).bind fun (r : (List T_Value) × Bool × Int × Unit) =>
  bif r.2.1 then
    some ((0, 0, [], ()), r.2.2.1, ())
  else
    bif (r.2.2.1 != 0) then
      some ((0, 0, [], ()), r.2.2.1, ())
    else
      bif inR 0 r.1.length then
      bif (((nthD r.1 0 d_Value).1) == 2) then
        bif inR 0 r.1.length then
        bif inR 1 r.1.length then
        (num_Sub N ((nthD r.1 0 d_Value).2.1) ((nthD r.1 1 d_Value).2.1)).bind fun (r1 : Int × Int × Unit) =>
        bif (r1.2.1 != 0) then
          some ((0, 0, [], ()), r1.2.1, ())
        else
          bif inR 0 r.1.length then
          some (((nthD r.1 0 d_Value).1, r1.1, [], ()), 0, ())
          else none
        else none
        else none
      else
        bif inR 0 r.1.length then
        bif inR 1 r.1.length then
        (num_Sub N ((nthD r.1 0 d_Value).2.1) ((nthD r.1 1 d_Value).2.1)).bind fun (r2 : Int × Int × Unit) =>
        bif (r2.2.1 != 0) then
          some ((0, 0, [], ()), r2.2.1, ())
        else
          bif inR 0 r.1.length then
          some (((nthD r.1 0 d_Value).1, r2.1, [], ()), 0, ())
          else none
        else none
        else none
      else none
abbrev value_do_v1_ps : List PK := [.val t_Value, .val t_Value, .fn 8 0, .fn 8 0]
noncomputable def value_do_v1_C (N : Nat) (a : T_Value) (b : T_Value) : Option (RT [t_Value, (.int .i64)]) := callBody DR Try.prog N (value_do_v1_T N) value_do_v1_H Try.f59 (bodyOf Try.f59) (RT [t_Value, (.int .i64)]) (encA2 value_do_v1_ps (a, b, ())) [] (kPure [t_Value, (.int .i64)])
theorem value_do_v1_run (N : Nat) (a : T_Value) (b : T_Value) : value_do_v1_C N a b = value_do_v1 N a b := by kernel_rfl
def value_do_v1_entO (m : T_Value → T_Value → Option (T_Value × Int × Unit)) : Ent := patEnt value_do_v1_ps [t_Value, (.int .i64)] fun (x : Els [t_Value, t_Value]) => m x.1 x.2.1
def value_do_v1_ent (N : Nat) : Ent := value_do_v1_entO (value_do_v1 N)
theorem value_do_v1_sound (N : Nat) : EntSound Try.prog 59 (value_do_v1_ent N) := patEnt_sound (value_do_v1_Ts N) Try.func59 rfl (by kernel_rfl) (by kernel_rfl) fun (x : Els [t_Value, t_Value]) => value_do_v1_run N x.1 x.2.1
def value_Sub_H : FH := ⟨[], [], [], [], false, [], []⟩
noncomputable def value_Sub_T (N : Nat) : CallT := tab [(59, value_do_v1_ent N)]
theorem value_Sub_Ts (N : Nat) : CallSound Try.prog (value_Sub_T N) := tab_cons (value_do_v1_sound N) <| tab_nil _
def value_Sub (N : Nat) (a : T_Value) (b : T_Value) : Option (T_Value × Int × Unit) :=
  (value_do_v1 N a b).bind fun (r : T_Value × Int × Unit) =>
  some r
noncomputable def value_Sub_C (N : Nat) (a : T_Value) (b : T_Value) : Option (RT [t_Value, (.int .i64)]) := callBody DR Try.prog N (value_Sub_T N) value_Sub_H Try.f26 (bodyOf Try.f26) (RT [t_Value, (.int .i64)]) (encA [t_Value, t_Value] (a, b, ())) [] (kPure [t_Value, (.int .i64)])
theorem value_Sub_run (N : Nat) (a : T_Value) (b : T_Value) : value_Sub_C N a b = value_Sub N a b := by kernel_rfl
def value_Sub_entO (m : T_Value → T_Value → Option (T_Value × Int × Unit)) : Ent := specEnt [t_Value, t_Value] [t_Value, (.int .i64)] fun (x : Els [t_Value, t_Value]) => m x.1 x.2.1
def value_Sub_ent (N : Nat) : Ent := value_Sub_entO (value_Sub N)
theorem value_Sub_sound (N : Nat) : EntSound Try.prog 26 (value_Sub_ent N) := specEnt_sound (value_Sub_Ts N) Try.func26 rfl (by kernel_rfl) fun (x : Els [t_Value, t_Value]) => value_Sub_run N x.1 x.2.1
def value_Not_H : FH := ⟨[], [], [], [], false, [], []⟩
noncomputable def value_Not_T (N : Nat) : CallT := tab [(51, value_Truth_ent N)]
theorem value_Not_Ts (N : Nat) : CallSound Try.prog (value_Not_T N) := tab_cons (value_Truth_sound N) <| tab_nil _
def value_Not (N : Nat) (a : T_Value) : Option T_Value :=
  bif (a.1 != 4) then
    some (0, 0, [], ())
  else
    (value_Truth N (a.2.1 == 0)).bind fun (r : T_Value) =>
    some r
noncomputable def value_Not_C (N : Nat) (a : T_Value) : Option (RT [t_Value]) := callBody DR Try.prog N (value_Not_T N) value_Not_H Try.f29 (bodyOf Try.f29) (RT [t_Value]) (encA [t_Value] (a, ())) [] (kPure [t_Value])
theorem value_Not_run (N : Nat) (a : T_Value) : value_Not_C N a = value_Not N a := by kernel_rfl
def value_Not_entO (m : T_Value → Option T_Value) : Ent := specEnt [t_Value] [t_Value] fun (x : Els [t_Value]) => m x.1
def value_Not_ent (N : Nat) : Ent := value_Not_entO (value_Not N)
theorem value_Not_sound (N : Nat) : EntSound Try.prog 29 (value_Not_ent N) := specEnt_sound (value_Not_Ts N) Try.func29 rfl (by kernel_rfl) fun (x : Els [t_Value]) => value_Not_run N x.1
def value_Any_H0 : LH := ⟨[(2, .asis), (3, .own t_Value 503 37 3), (6, .lst t_Value), (7, .int .i64), (8, .int .i64)], [], [.cells [.int .u8, .int .i64, .str]]⟩
def value_Any_H : FH := ⟨[value_Any_H0], [], [], [], false, [], []⟩
noncomputable def value_Any_T (N : Nat) : CallT := tab [(29, value_Not_ent N), (27, value_All_ent N)]
theorem value_Any_Ts (N : Nat) : CallSound Try.prog (value_Any_T N) := tab_cons (value_Not_sound N) <| tab_cons (value_All_sound N) <| tab_nil _
noncomputable def value_Any_sc : Sc := scOf Try.prog value_Any_H
noncomputable def value_Any_cf (N : Nat) : Cfg := ⟨N, value_Any_T N, 0⟩
noncomputable def value_Any_fin (N : Nat) : Exit → List TV → List TOb → Option T_Value := fin Try.prog 0 Try.f28.results.toList (kPure [t_Value])
def value_Any_E1 (l : List T_Value) (t7 : Int) (t2_Kind : Int) (t2_N : Int) (t2_S : List UInt8) (e : List T_Value × Int) : List TV := match e with
  | (others, t8) => frm 21 [(2, .ref 0 0), (3, .tl t_Value others (.own 503 37 3)), (6, .tl t_Value l .unk), (7, .int .i64 t7), (8, .int .i64 t8)]
def value_Any_S1 (l : List T_Value) (t7 : Int) (t2_Kind : Int) (t2_N : Int) (t2_S : List UInt8) (e : List T_Value × Int) : List TOb := match e with
  | (others, t8) => [.cells [.int .u8 t2_Kind, .int .i64 t2_N, .str t2_S] 37 true]
noncomputable def value_Any_R1 (N : Nat)  : (List TV → List TOb → Option T_Value) → List TV → List TOb → Option T_Value := rawL DR value_Any_sc (value_Any_cf N) (lopB (blkB (seqR (seqL (seqR (seqR (bodyOf Try.f28))))))) value_Any_H0 (value_Any_H.loops.drop 1) (kBlk 0 (kSeq DR value_Any_sc (value_Any_cf N) (seqR (seqR (seqR (bodyOf Try.f28)))) (value_Any_H.loops.drop 1) (value_Any_fin N)))
def value_Any_B1 (N : Nat) (l : List T_Value) (t7 : Int) (t2_Kind : Int) (t2_N : Int) (t2_S : List UInt8)  (K0 : (List T_Value × Int) → Option T_Value) (e : List T_Value × Int) : Option T_Value :=
  match e with
  | (others, t8) =>
    bif decide (t8 < t7) then
      bif inR t8 l.length then
      (value_Not N (nthD l t8 d_Value)).bind fun (r : T_Value) =>
      bif fits (others.length + ([r] : List T_Value).length) 4398046511104 then
      bif inI64 (t8 + 1) then
      K0 ((others ++ ([r] : List T_Value)), t8 + 1)
      else none
      else none
      else none
    else
      (value_All N others).bind fun (r1 : T_Value) =>
      (value_Not N r1).bind fun (r2 : T_Value) =>
      some r2
theorem value_Any_l1 (N : Nat) (l : List T_Value) (t7 : Int) (t2_Kind : Int) (t2_N : Int) (t2_S : List UInt8)  (n : Nat) (e : List T_Value × Int) : iterF (value_Any_R1 N ) n ((value_Any_E1 l t7 t2_Kind t2_N t2_S) e) ((value_Any_S1 l t7 t2_Kind t2_N t2_S) e) = iter (value_Any_B1 N l t7 t2_Kind t2_N t2_S ) n e :=
  loop_iter (value_Any_E1 l t7 t2_Kind t2_N t2_S) (value_Any_S1 l t7 t2_Kind t2_N t2_S) (by intro K e; obtain ⟨others, t8⟩ := e; kernel_rfl) n e
def value_Any_t (N : Nat) (l : List T_Value) (l1 : (List T_Value) → Int → Int → Int → (List UInt8) → (List T_Value × Int) → Option T_Value) : Option T_Value :=
  l1 l (l.length : Int) 0 0 [] ([], 0)
def value_Any (N : Nat) (l : List T_Value) : Option T_Value := value_Any_t N l (fun (l : List T_Value) (t7 : Int) (t2_Kind : Int) (t2_N : Int) (t2_S : List UInt8) (e : List T_Value × Int) => iter (value_Any_B1 N l t7 t2_Kind t2_N t2_S) N e)
noncomputable def value_Any_C (N : Nat) (l : List T_Value) : Option (RT [t_Value]) := callBody DR Try.prog N (value_Any_T N) value_Any_H Try.f28 (bodyOf Try.f28) (RT [t_Value]) (encA [(.list t_Value)] (l, ())) [] (kPure [t_Value])
theorem value_Any_run (N : Nat) (l : List T_Value) : value_Any_C N l = value_Any N l := by
  have h : value_Any_C N l = value_Any_t N l (fun (l : List T_Value) (t7 : Int) (t2_Kind : Int) (t2_N : Int) (t2_S : List UInt8) (e : List T_Value × Int) => iterF (value_Any_R1 N ) N (value_Any_E1 l t7 t2_Kind t2_N t2_S e) (value_Any_S1 l t7 t2_Kind t2_N t2_S e)) := by kernel_rfl
  rw [h]
  simp only [value_Any, value_Any_l1] <;> rfl
def value_Any_entO (m : (List T_Value) → Option T_Value) : Ent := specEnt [(.list t_Value)] [t_Value] fun (x : Els [(.list t_Value)]) => m x.1
def value_Any_ent (N : Nat) : Ent := value_Any_entO (value_Any N)
theorem value_Any_sound (N : Nat) : EntSound Try.prog 28 (value_Any_ent N) := specEnt_sound (value_Any_Ts N) Try.func28 rfl (by kernel_rfl) fun (x : Els [(.list t_Value)]) => value_Any_run N x.1
def w2_ValueLaws_H : FH := ⟨[], [], [(3, ⟨8, 175, 0, [], []⟩), (12, ⟨35, 175, 0, [], []⟩), (14, ⟨8, 175, 0, [], []⟩)], [], false, [], [(6, ⟨[(3, .asis), (4, .asis), (5, .asis)], [], [.cells [.int .u8, .int .i64, .str], .cells [.int .u8, .int .i64, .str], .cells [.int .u8, .int .i64, .str]]⟩), (12, ⟨[(3, .asis), (4, .asis), (5, .asis)], [], [.cells [.int .u8, .int .i64, .str], .cells [.int .u8, .int .i64, .str], .cells [.int .u8, .int .i64, .str]]⟩)]⟩
noncomputable def w2_ValueLaws_T (N : Nat) : CallT := tab [(22, w2_right_ent N), (23, w2_known_ent N), (24, value_Order_ent N), (25, value_Compare_ent N), (26, value_Sub_ent N), (27, value_All_ent N), (28, value_Any_ent N), (29, value_Not_ent N)]
theorem w2_ValueLaws_Ts (N : Nat) : CallSound Try.prog (w2_ValueLaws_T N) := tab_cons (w2_right_sound N) <| tab_cons (w2_known_sound N) <| tab_cons (value_Order_sound N) <| tab_cons (value_Compare_sound N) <| tab_cons (value_Sub_sound N) <| tab_cons (value_All_sound N) <| tab_cons (value_Any_sound N) <| tab_cons (value_Not_sound N) <| tab_nil _
noncomputable def w2_ValueLaws_sc : Sc := scOf Try.prog w2_ValueLaws_H
noncomputable def w2_ValueLaws_cf (N : Nat) : Cfg := ⟨N, w2_ValueLaws_T N, 0⟩
noncomputable def w2_ValueLaws_fin (N : Nat) : Exit → List TV → List TOb → Option Bool := fin Try.prog 0 Try.f4.results.toList (kPure [.bool])
def w2_ValueLaws_E1 (a_Kind : Int) (a_N : Int) (a_S : List UInt8) (b_Kind : Int) (b_N : Int) (b_S : List UInt8) (c_Kind : Int) (c_N : Int) (c_S : List UInt8) (e : Unit) : List TV := frm 175 [(3, .ref 0 0), (4, .ref 1 0), (5, .ref 2 0)]
def w2_ValueLaws_S1 (a_Kind : Int) (a_N : Int) (a_S : List UInt8) (b_Kind : Int) (b_N : Int) (b_S : List UInt8) (c_Kind : Int) (c_N : Int) (c_S : List UInt8) (e : Unit) : List TOb := [.cells [.int .u8 a_Kind, .int .i64 a_N, .str a_S] 37 true, .cells [.int .u8 b_Kind, .int .i64 b_N, .str b_S] 37 true, .cells [.int .u8 c_Kind, .int .i64 c_N, .str c_S] 37 true]
def w2_ValueLaws_E2 (a_Kind : Int) (a_N : Int) (a_S : List UInt8) (b_Kind : Int) (b_N : Int) (b_S : List UInt8) (c_Kind : Int) (c_N : Int) (c_S : List UInt8) (e : Unit) : List TV := frm 175 [(3, .ref 0 0), (4, .ref 1 0), (5, .ref 2 0)]
def w2_ValueLaws_S2 (a_Kind : Int) (a_N : Int) (a_S : List UInt8) (b_Kind : Int) (b_N : Int) (b_S : List UInt8) (c_Kind : Int) (c_N : Int) (c_S : List UInt8) (e : Unit) : List TOb := [.cells [.int .u8 a_Kind, .int .i64 a_N, .str a_S] 37 true, .cells [.int .u8 b_Kind, .int .i64 b_N, .str b_S] 37 true, .cells [.int .u8 c_Kind, .int .i64 c_N, .str c_S] 37 true]
noncomputable def w2_ValueLaws_R2 (N : Nat)  : List TV → List TOb → Option Bool := rawJ DR w2_ValueLaws_sc (w2_ValueLaws_cf N) (seqL (seqL (seqR (seqR (seqR (seqR (seqR (bodyOf Try.f4)))))))) (kSeq DR w2_ValueLaws_sc (w2_ValueLaws_cf N) (seqR (seqL (seqR (seqR (seqR (seqR (seqR (bodyOf Try.f4)))))))) (w2_ValueLaws_H.loops.drop 0) (kSeq DR w2_ValueLaws_sc (w2_ValueLaws_cf N) (seqR (seqR (seqR (seqR (seqR (seqR (bodyOf Try.f4))))))) (w2_ValueLaws_H.loops.drop 0) (w2_ValueLaws_fin N)))
def w2_ValueLaws_B2 (N : Nat) (a_Kind : Int) (a_N : Int) (a_S : List UInt8) (b_Kind : Int) (b_N : Int) (b_S : List UInt8) (c_Kind : Int) (c_N : Int) (c_S : List UInt8)   (e : Unit) : Option Bool :=
  (value_All N ([(a_Kind, a_N, a_S, ()), (b_Kind, b_N, b_S, ()), (c_Kind, c_N, c_S, ())] : List T_Value)).bind fun (r9 : T_Value) =>
  (value_All N ([(c_Kind, c_N, c_S, ()), (a_Kind, a_N, a_S, ()), (b_Kind, b_N, b_S, ())] : List T_Value)).bind fun (r10 : T_Value) =>
  bif (!((r9.1 == r10.1) && ((r9.2.1 == r10.2.1) && ((r9.2.2.1 == r10.2.2.1) && true)))) then
    some false
  else
    (value_Any N ([(a_Kind, a_N, a_S, ()), (b_Kind, b_N, b_S, ()), (c_Kind, c_N, c_S, ())] : List T_Value)).bind fun (r11 : T_Value) =>
    (value_Any N ([(b_Kind, b_N, b_S, ()), (c_Kind, c_N, c_S, ()), (a_Kind, a_N, a_S, ())] : List T_Value)).bind fun (r12 : T_Value) =>
    bif (!((r11.1 == r12.1) && ((r11.2.1 == r12.2.1) && ((r11.2.2.1 == r12.2.2.1) && true)))) then
      some false
    else
      (value_All N ([(a_Kind, a_N, a_S, ()), (b_Kind, b_N, b_S, ()), (c_Kind, c_N, c_S, ())] : List T_Value)).bind fun (r13 : T_Value) =>
      (value_All N ([(a_Kind, a_N, a_S, ()), (b_Kind, b_N, b_S, ())] : List T_Value)).bind fun (r14 : T_Value) =>
      (value_All N ([r14, (c_Kind, c_N, c_S, ())] : List T_Value)).bind fun (r15 : T_Value) =>
      bif (!((r13.1 == r15.1) && ((r13.2.1 == r15.2.1) && ((r13.2.2.1 == r15.2.2.1) && true)))) then
        some false
      else
        (value_All N ([(a_Kind, a_N, a_S, ()), (b_Kind, b_N, b_S, ())] : List T_Value)).bind fun (r16 : T_Value) =>
        (value_Not N r16).bind fun (r17 : T_Value) =>
        (value_Not N (a_Kind, a_N, a_S, ())).bind fun (r18 : T_Value) =>
        (value_Not N (b_Kind, b_N, b_S, ())).bind fun (r19 : T_Value) =>
        (value_Any N ([r18, r19] : List T_Value)).bind fun (r20 : T_Value) =>
        bif ((r17.1 == r20.1) && ((r17.2.1 == r20.2.1) && ((r17.2.2.1 == r20.2.2.1) && true))) then
          (w2_known N).bind fun (r21 : Bool) =>
          some r21
        else
          some false
theorem w2_ValueLaws_l2 (N : Nat) (a_Kind : Int) (a_N : Int) (a_S : List UInt8) (b_Kind : Int) (b_N : Int) (b_S : List UInt8) (c_Kind : Int) (c_N : Int) (c_S : List UInt8)  (e : Unit) : jmp N (w2_ValueLaws_R2 N ) ((w2_ValueLaws_E2 a_Kind a_N a_S b_Kind b_N b_S c_Kind c_N c_S) e) ((w2_ValueLaws_S2 a_Kind a_N a_S b_Kind b_N b_S c_Kind c_N c_S) e) = at1 N (w2_ValueLaws_B2 N a_Kind a_N a_S b_Kind b_N b_S c_Kind c_N c_S  e) := jmp_at (by kernel_rfl) N
noncomputable def w2_ValueLaws_R1 (N : Nat)  : List TV → List TOb → Option Bool := rawJ DR w2_ValueLaws_sc (w2_ValueLaws_cf N) (seqL (seqL (seqR (seqR (seqR (seqR (bodyOf Try.f4))))))) (kSeq DR w2_ValueLaws_sc (w2_ValueLaws_cf N) (seqR (seqL (seqR (seqR (seqR (seqR (bodyOf Try.f4))))))) (w2_ValueLaws_H.loops.drop 0) (kSeq DR w2_ValueLaws_sc (w2_ValueLaws_cf N) (seqR (seqR (seqR (seqR (seqR (bodyOf Try.f4)))))) (w2_ValueLaws_H.loops.drop 0) (w2_ValueLaws_fin N)))
def w2_ValueLaws_B1t (N : Nat) (a_Kind : Int) (a_N : Int) (a_S : List UInt8) (b_Kind : Int) (b_N : Int) (b_S : List UInt8) (c_Kind : Int) (c_N : Int) (c_S : List UInt8)  (l2 : Int → Int → (List UInt8) → Int → Int → (List UInt8) → Int → Int → (List UInt8) → Unit → Option Bool)  (e : Unit) : Option Bool :=
  (value_Compare N (a_Kind, a_N, a_S, ()) (b_Kind, b_N, b_S, ())).bind fun (r6 : Int × Bool × Unit) =>
  bif r6.2.1 then
    (value_Compare N (b_Kind, b_N, b_S, ()) (a_Kind, a_N, a_S, ())).bind fun (r7 : Int × Bool × Unit) =>
    (value_Sub N (a_Kind, a_N, a_S, ()) (b_Kind, b_N, b_S, ())).bind fun (r8 : T_Value × Int × Unit) =>
    bif (!r7.2.1) then
      some false
    else
      bif inI64 (0 - r6.1) then
      bif (r7.1 != (0 - r6.1)) then
        some false
      else
        bif (r8.2.1 == 0) then
          bif (!((decide (r8.1.2.1 < 0)) == (decide (r6.1 < 0)))) then
            some false
          else
            bif (r8.2.1 == 0) then
              bif (!((r8.1.2.1 == 0) == (r6.1 == 0))) then
                some false
              else
                l2 a_Kind a_N a_S b_Kind b_N b_S c_Kind c_N c_S ()
            else
              l2 a_Kind a_N a_S b_Kind b_N b_S c_Kind c_N c_S ()
        else
          bif (r8.2.1 == 0) then
            bif (!((r8.1.2.1 == 0) == (r6.1 == 0))) then
              some false
            else
              l2 a_Kind a_N a_S b_Kind b_N b_S c_Kind c_N c_S ()
          else
            l2 a_Kind a_N a_S b_Kind b_N b_S c_Kind c_N c_S ()
      else none
  else
    l2 a_Kind a_N a_S b_Kind b_N b_S c_Kind c_N c_S ()
def w2_ValueLaws_B1 (N : Nat) (a_Kind : Int) (a_N : Int) (a_S : List UInt8) (b_Kind : Int) (b_N : Int) (b_S : List UInt8) (c_Kind : Int) (c_N : Int) (c_S : List UInt8)   (e : Unit) : Option Bool := w2_ValueLaws_B1t N a_Kind a_N a_S b_Kind b_N b_S c_Kind c_N c_S  (fun (a_Kind : Int) (a_N : Int) (a_S : List UInt8) (b_Kind : Int) (b_N : Int) (b_S : List UInt8) (c_Kind : Int) (c_N : Int) (c_S : List UInt8) (e : Unit) => at1 N (w2_ValueLaws_B2 N a_Kind a_N a_S b_Kind b_N b_S c_Kind c_N c_S e))  e
theorem w2_ValueLaws_l1 (N : Nat) (a_Kind : Int) (a_N : Int) (a_S : List UInt8) (b_Kind : Int) (b_N : Int) (b_S : List UInt8) (c_Kind : Int) (c_N : Int) (c_S : List UInt8)  (e : Unit) : jmp N (w2_ValueLaws_R1 N ) ((w2_ValueLaws_E1 a_Kind a_N a_S b_Kind b_N b_S c_Kind c_N c_S) e) ((w2_ValueLaws_S1 a_Kind a_N a_S b_Kind b_N b_S c_Kind c_N c_S) e) = at1 N (w2_ValueLaws_B1 N a_Kind a_N a_S b_Kind b_N b_S c_Kind c_N c_S  e) := jmp_at (by
  have h : (w2_ValueLaws_R1 N ) ((w2_ValueLaws_E1 a_Kind a_N a_S b_Kind b_N b_S c_Kind c_N c_S) e) ((w2_ValueLaws_S1 a_Kind a_N a_S b_Kind b_N b_S c_Kind c_N c_S) e) = w2_ValueLaws_B1t N a_Kind a_N a_S b_Kind b_N b_S c_Kind c_N c_S  (fun (a_Kind : Int) (a_N : Int) (a_S : List UInt8) (b_Kind : Int) (b_N : Int) (b_S : List UInt8) (c_Kind : Int) (c_N : Int) (c_S : List UInt8) (e : Unit) => jmp N (w2_ValueLaws_R2 N ) (w2_ValueLaws_E2 a_Kind a_N a_S b_Kind b_N b_S c_Kind c_N c_S e) (w2_ValueLaws_S2 a_Kind a_N a_S b_Kind b_N b_S c_Kind c_N c_S e)) e := by kernel_rfl
  rw [h]
  simp only [w2_ValueLaws_B1, w2_ValueLaws_l2] <;> rfl) N
def w2_ValueLaws_t (N : Nat) (a : T_Value) (b : T_Value) (c : T_Value) (l1 : Int → Int → (List UInt8) → Int → Int → (List UInt8) → Int → Int → (List UInt8) → Unit → Option Bool) : Option Bool :=
  (w2_right N ([a, b, c] : List T_Value)).bind fun (r : Bool) =>
  bif (!r) then
    (w2_known N).bind fun (r1 : Bool) =>
    some r1
  else
    (value_Order N a b).bind fun (r2 : Int) =>
    (value_Order N b c).bind fun (r3 : Int) =>
    (value_Order N a c).bind fun (r4 : Int) =>
    (value_Order N b a).bind fun (r5 : Int) =>
    bif inI64 (0 - r5) then
    bif (r2 != (0 - r5)) then
      some false
    else
      bif (!((r2 == 0) == ((a.1 == b.1) && ((a.2.1 == b.2.1) && ((a.2.2.1 == b.2.2.1) && true))))) then
        some false
      else
        bif decide (r2 ≤ 0) then
          bif decide (r3 ≤ 0) then
            bif decide (r4 > 0) then
              some false
            else
              bif decide (r2 ≥ 0) then
                bif decide (r3 ≥ 0) then
                  bif decide (r4 < 0) then
                    some false
                  else
                    l1 a.1 a.2.1 a.2.2.1 b.1 b.2.1 b.2.2.1 c.1 c.2.1 c.2.2.1 ()
                else
                  l1 a.1 a.2.1 a.2.2.1 b.1 b.2.1 b.2.2.1 c.1 c.2.1 c.2.2.1 ()
              else
                l1 a.1 a.2.1 a.2.2.1 b.1 b.2.1 b.2.2.1 c.1 c.2.1 c.2.2.1 ()
          else
            bif decide (r2 ≥ 0) then
              bif decide (r3 ≥ 0) then
                bif decide (r4 < 0) then
                  some false
                else
                  l1 a.1 a.2.1 a.2.2.1 b.1 b.2.1 b.2.2.1 c.1 c.2.1 c.2.2.1 ()
              else
                l1 a.1 a.2.1 a.2.2.1 b.1 b.2.1 b.2.2.1 c.1 c.2.1 c.2.2.1 ()
            else
              l1 a.1 a.2.1 a.2.2.1 b.1 b.2.1 b.2.2.1 c.1 c.2.1 c.2.2.1 ()
        else
          bif decide (r2 ≥ 0) then
            bif decide (r3 ≥ 0) then
              bif decide (r4 < 0) then
                some false
              else
                l1 a.1 a.2.1 a.2.2.1 b.1 b.2.1 b.2.2.1 c.1 c.2.1 c.2.2.1 ()
            else
              l1 a.1 a.2.1 a.2.2.1 b.1 b.2.1 b.2.2.1 c.1 c.2.1 c.2.2.1 ()
          else
            l1 a.1 a.2.1 a.2.2.1 b.1 b.2.1 b.2.2.1 c.1 c.2.1 c.2.2.1 ()
    else none
def w2_ValueLaws (N : Nat) (a : T_Value) (b : T_Value) (c : T_Value) : Option Bool := w2_ValueLaws_t N a b c (fun (a_Kind : Int) (a_N : Int) (a_S : List UInt8) (b_Kind : Int) (b_N : Int) (b_S : List UInt8) (c_Kind : Int) (c_N : Int) (c_S : List UInt8) (e : Unit) => at1 N (w2_ValueLaws_B1 N a_Kind a_N a_S b_Kind b_N b_S c_Kind c_N c_S e))
noncomputable def w2_ValueLaws_C (N : Nat) (a : T_Value) (b : T_Value) (c : T_Value) : Option (RT [.bool]) := callBody DR Try.prog N (w2_ValueLaws_T N) w2_ValueLaws_H Try.f4 (bodyOf Try.f4) (RT [.bool]) (encA [t_Value, t_Value, t_Value] (a, b, c, ())) [] (kPure [.bool])
theorem w2_ValueLaws_run (N : Nat) (a : T_Value) (b : T_Value) (c : T_Value) : w2_ValueLaws_C N a b c = w2_ValueLaws N a b c := by
  have h : w2_ValueLaws_C N a b c = w2_ValueLaws_t N a b c (fun (a_Kind : Int) (a_N : Int) (a_S : List UInt8) (b_Kind : Int) (b_N : Int) (b_S : List UInt8) (c_Kind : Int) (c_N : Int) (c_S : List UInt8) (e : Unit) => jmp N (w2_ValueLaws_R1 N ) (w2_ValueLaws_E1 a_Kind a_N a_S b_Kind b_N b_S c_Kind c_N c_S e) (w2_ValueLaws_S1 a_Kind a_N a_S b_Kind b_N b_S c_Kind c_N c_S e)) := by kernel_rfl
  rw [h]
  simp only [w2_ValueLaws, w2_ValueLaws_l1] <;> rfl
def w2_ValueLaws_entO (m : T_Value → T_Value → T_Value → Option Bool) : Ent := specEnt [t_Value, t_Value, t_Value] [.bool] fun (x : Els [t_Value, t_Value, t_Value]) => m x.1 x.2.1 x.2.2.1
def w2_ValueLaws_ent (N : Nat) : Ent := w2_ValueLaws_entO (w2_ValueLaws N)
theorem w2_ValueLaws_sound (N : Nat) : EntSound Try.prog 4 (w2_ValueLaws_ent N) := specEnt_sound (w2_ValueLaws_Ts N) Try.func4 rfl (by kernel_rfl) fun (x : Els [t_Value, t_Value, t_Value]) => w2_ValueLaws_run N x.1 x.2.1 x.2.2.1
def value_May_H : FH := ⟨[], [], [], [], false, [], []⟩
noncomputable def value_May_T (N : Nat) : CallT := tab [(60, value_isText_ent N), (61, value_isName_ent N)]
theorem value_May_Ts (N : Nat) : CallSound Try.prog (value_May_T N) := tab_cons (value_isText_sound N) <| tab_cons (value_isName_sound N) <| tab_nil _
def value_May (N : Nat) (v : T_Value) : Option Bool :=
  bif (v.1 == 0) then
    some ((v.1 == (0 : Int)) && ((v.2.1 == (0 : Int)) && ((v.2.2.1 == ([] : List UInt8)) && true)))
  else
    bif (v.1 == 1) then
      some (v.2.2.1 == ([] : List UInt8))
    else
      bif (v.1 == 2) then
        some (v.2.2.1 == ([] : List UInt8))
      else
        bif (v.1 == 3) then
          bif (v.2.1 == 0) then
            (value_isText N v.2.2.1).bind fun (r : Bool) =>
            some r
          else
            some false
        else
          bif (v.1 == 4) then
            bif (v.2.2.1 == ([] : List UInt8)) then
              bif (v.2.1 == 0) then
                some true
              else
                some (v.2.1 == 1)
            else
              some false
          else
            bif (v.1 == 5) then
              bif (v.2.1 == 0) then
                (value_isName N v.2.2.1).bind fun (r1 : Bool) =>
                some r1
              else
                some false
            else
              some false
noncomputable def value_May_C (N : Nat) (v : T_Value) : Option (RT [.bool]) := callBody DR Try.prog N (value_May_T N) value_May_H Try.f30 (bodyOf Try.f30) (RT [.bool]) (encA [t_Value] (v, ())) [] (kPure [.bool])
theorem value_May_run (N : Nat) (v : T_Value) : value_May_C N v = value_May N v := by kernel_rfl
def value_May_entO (m : T_Value → Option Bool) : Ent := specEnt [t_Value] [.bool] fun (x : Els [t_Value]) => m x.1
def value_May_ent (N : Nat) : Ent := value_May_entO (value_May N)
theorem value_May_sound (N : Nat) : EntSound Try.prog 30 (value_May_ent N) := specEnt_sound (value_May_Ts N) Try.func30 rfl (by kernel_rfl) fun (x : Els [t_Value]) => value_May_run N x.1
def r2_Order_H : FH := ⟨[], [], [], [], false, [], []⟩
noncomputable def r2_Order_T (N : Nat) : CallT := tab []
theorem r2_Order_Ts (N : Nat) : CallSound Try.prog (r2_Order_T N) := tab_nil _
def r2_Order (N : Nat) (a : T_Value) (b : T_Value) : Option Int :=
  bif (a.1 != b.1) then
    bif decide (a.1 < b.1) then
      some (-1)
    else
      some 1
  else
    bif (a.2.1 != b.2.1) then
      bif decide (a.2.1 < b.2.1) then
        some (-1)
      else
        some 1
    else
      bif (Op.bytesLess a.2.2.1 b.2.2.1) then
        some (-1)
      else
        bif (!(Op.bytesLess a.2.2.1 b.2.2.1 || a.2.2.1 == b.2.2.1)) then
          some 1
        else
          some 0
noncomputable def r2_Order_C (N : Nat) (a : T_Value) (b : T_Value) : Option (RT [(.int .i64)]) := callBody DR Try.prog N (r2_Order_T N) r2_Order_H Try.f32 (bodyOf Try.f32) (RT [(.int .i64)]) (encA [t_Value, t_Value] (a, b, ())) [] (kPure [(.int .i64)])
theorem r2_Order_run (N : Nat) (a : T_Value) (b : T_Value) : r2_Order_C N a b = r2_Order N a b := by kernel_rfl
def r2_Order_entO (m : T_Value → T_Value → Option Int) : Ent := specEnt [t_Value, t_Value] [(.int .i64)] fun (x : Els [t_Value, t_Value]) => m x.1 x.2.1
def r2_Order_ent (N : Nat) : Ent := r2_Order_entO (r2_Order N)
theorem r2_Order_sound (N : Nat) : EntSound Try.prog 32 (r2_Order_ent N) := specEnt_sound (r2_Order_Ts N) Try.func32 rfl (by kernel_rfl) fun (x : Els [t_Value, t_Value]) => r2_Order_run N x.1 x.2.1
def r2_Number_H : FH := ⟨[], [], [], [], false, [], []⟩
noncomputable def r2_Number_T (N : Nat) : CallT := tab []
theorem r2_Number_Ts (N : Nat) : CallSound Try.prog (r2_Number_T N) := tab_nil _
def r2_Number (N : Nat) (v : T_Value) : Option Bool :=
  bif (v.1 == 1) then
    some true
  else
    some (v.1 == 2)
noncomputable def r2_Number_C (N : Nat) (v : T_Value) : Option (RT [.bool]) := callBody DR Try.prog N (r2_Number_T N) r2_Number_H Try.f63 (bodyOf Try.f63) (RT [.bool]) (encA [t_Value] (v, ())) [] (kPure [.bool])
theorem r2_Number_run (N : Nat) (v : T_Value) : r2_Number_C N v = r2_Number N v := by kernel_rfl
def r2_Number_entO (m : T_Value → Option Bool) : Ent := specEnt [t_Value] [.bool] fun (x : Els [t_Value]) => m x.1
def r2_Number_ent (N : Nat) : Ent := r2_Number_entO (r2_Number N)
theorem r2_Number_sound (N : Nat) : EntSound Try.prog 63 (r2_Number_ent N) := specEnt_sound (r2_Number_Ts N) Try.func63 rfl (by kernel_rfl) fun (x : Els [t_Value]) => r2_Number_run N x.1
def r2_Worth_H : FH := ⟨[], [], [], [], false, [], []⟩
noncomputable def r2_Worth_T (N : Nat) : CallT := tab [(6, r1_Of_ent N), (15, r1_Mul_ent N)]
theorem r2_Worth_Ts (N : Nat) : CallSound Try.prog (r2_Worth_T N) := tab_cons (r1_Of_sound N) <| tab_cons (r1_Mul_sound N) <| tab_nil _
def r2_Worth (N : Nat) (v : T_Value) : Option T_N1 :=
  bif (v.1 == 1) then
    (r1_Of N v.2.1).bind fun (r : T_N1) =>
    (r1_Of N 10000).bind fun (r1 : T_N1) =>
    (r1_Mul N r r1).bind fun (r2 : T_N1) =>
    some r2
  else
    (r1_Of N v.2.1).bind fun (r3 : T_N1) =>
    some r3
noncomputable def r2_Worth_C (N : Nat) (v : T_Value) : Option (RT [t_N1]) := callBody DR Try.prog N (r2_Worth_T N) r2_Worth_H Try.f64 (bodyOf Try.f64) (RT [t_N1]) (encA [t_Value] (v, ())) [] (kPure [t_N1])
theorem r2_Worth_run (N : Nat) (v : T_Value) : r2_Worth_C N v = r2_Worth N v := by kernel_rfl
def r2_Worth_entO (m : T_Value → Option T_N1) : Ent := specEnt [t_Value] [t_N1] fun (x : Els [t_Value]) => m x.1
def r2_Worth_ent (N : Nat) : Ent := r2_Worth_entO (r2_Worth N)
theorem r2_Worth_sound (N : Nat) : EntSound Try.prog 64 (r2_Worth_ent N) := specEnt_sound (r2_Worth_Ts N) Try.func64 rfl (by kernel_rfl) fun (x : Els [t_Value]) => r2_Worth_run N x.1
def r2_Compare_H : FH := ⟨[], [], [(2, ⟨3, 35, 0, [], []⟩)], [], false, [], [(3, ⟨[(2, .asis), (3, .asis)], [], [.cells [.int .u8, .int .i64, .str], .cells [.int .u8, .int .i64, .str]]⟩)]⟩
noncomputable def r2_Compare_T (N : Nat) : CallT := tab [(63, r2_Number_ent N), (64, r2_Worth_ent N), (50, r1_Cmp_ent N), (32, r2_Order_ent N)]
theorem r2_Compare_Ts (N : Nat) : CallSound Try.prog (r2_Compare_T N) := tab_cons (r2_Number_sound N) <| tab_cons (r2_Worth_sound N) <| tab_cons (r1_Cmp_sound N) <| tab_cons (r2_Order_sound N) <| tab_nil _
noncomputable def r2_Compare_sc : Sc := scOf Try.prog r2_Compare_H
noncomputable def r2_Compare_cf (N : Nat) : Cfg := ⟨N, r2_Compare_T N, 0⟩
noncomputable def r2_Compare_fin (N : Nat) : Exit → List TV → List TOb → Option (Int × Bool × Unit) := fin Try.prog 0 Try.f33.results.toList (kPure [(.int .i64), .bool])
def r2_Compare_E1 (a_Kind : Int) (a_N : Int) (a_S : List UInt8) (b_Kind : Int) (b_N : Int) (b_S : List UInt8) (e : Unit) : List TV := frm 35 [(2, .ref 0 0), (3, .ref 1 0)]
def r2_Compare_S1 (a_Kind : Int) (a_N : Int) (a_S : List UInt8) (b_Kind : Int) (b_N : Int) (b_S : List UInt8) (e : Unit) : List TOb := [.cells [.int .u8 a_Kind, .int .i64 a_N, .str a_S] 37 true, .cells [.int .u8 b_Kind, .int .i64 b_N, .str b_S] 37 true]
noncomputable def r2_Compare_R1 (N : Nat)  : List TV → List TOb → Option (Int × Bool × Unit) := rawJ DR r2_Compare_sc (r2_Compare_cf N) (seqL (seqL (seqR (seqR (bodyOf Try.f33))))) (kSeq DR r2_Compare_sc (r2_Compare_cf N) (seqR (seqL (seqR (seqR (bodyOf Try.f33))))) (r2_Compare_H.loops.drop 0) (kSeq DR r2_Compare_sc (r2_Compare_cf N) (seqR (seqR (seqR (bodyOf Try.f33)))) (r2_Compare_H.loops.drop 0) (r2_Compare_fin N)))
def r2_Compare_B1 (N : Nat) (a_Kind : Int) (a_N : Int) (a_S : List UInt8) (b_Kind : Int) (b_N : Int) (b_S : List UInt8)   (e : Unit) : Option (Int × Bool × Unit) :=
  bif (a_Kind == b_Kind) then
    bif decide (a_Kind ≥ 3) then
      bif decide (a_Kind ≤ 5) then
        (r2_Order N (a_Kind, a_N, a_S, ()) (b_Kind, b_N, b_S, ())).bind fun (r5 : Int) =>
        some (r5, true, ())
      else
        some (0, false, ())
    else
      some (0, false, ())
  else
    some (0, false, ())
theorem r2_Compare_l1 (N : Nat) (a_Kind : Int) (a_N : Int) (a_S : List UInt8) (b_Kind : Int) (b_N : Int) (b_S : List UInt8)  (e : Unit) : jmp N (r2_Compare_R1 N ) ((r2_Compare_E1 a_Kind a_N a_S b_Kind b_N b_S) e) ((r2_Compare_S1 a_Kind a_N a_S b_Kind b_N b_S) e) = at1 N (r2_Compare_B1 N a_Kind a_N a_S b_Kind b_N b_S  e) := jmp_at (by kernel_rfl) N
def r2_Compare_t (N : Nat) (a : T_Value) (b : T_Value) (l1 : Int → Int → (List UInt8) → Int → Int → (List UInt8) → Unit → Option (Int × Bool × Unit)) : Option (Int × Bool × Unit) :=
  (r2_Number N a).bind fun (r : Bool) =>
  bif r then
    (r2_Number N b).bind fun (r1 : Bool) =>
    bif r1 then
      (r2_Worth N a).bind fun (r2 : T_N1) =>
      (r2_Worth N b).bind fun (r3 : T_N1) =>
      (r1_Cmp N r2 r3).bind fun (r4 : Int) =>
      some (r4, true, ())
    else
      l1 a.1 a.2.1 a.2.2.1 b.1 b.2.1 b.2.2.1 ()
  else
    l1 a.1 a.2.1 a.2.2.1 b.1 b.2.1 b.2.2.1 ()
def r2_Compare (N : Nat) (a : T_Value) (b : T_Value) : Option (Int × Bool × Unit) := r2_Compare_t N a b (fun (a_Kind : Int) (a_N : Int) (a_S : List UInt8) (b_Kind : Int) (b_N : Int) (b_S : List UInt8) (e : Unit) => at1 N (r2_Compare_B1 N a_Kind a_N a_S b_Kind b_N b_S e))
noncomputable def r2_Compare_C (N : Nat) (a : T_Value) (b : T_Value) : Option (RT [(.int .i64), .bool]) := callBody DR Try.prog N (r2_Compare_T N) r2_Compare_H Try.f33 (bodyOf Try.f33) (RT [(.int .i64), .bool]) (encA [t_Value, t_Value] (a, b, ())) [] (kPure [(.int .i64), .bool])
theorem r2_Compare_run (N : Nat) (a : T_Value) (b : T_Value) : r2_Compare_C N a b = r2_Compare N a b := by
  have h : r2_Compare_C N a b = r2_Compare_t N a b (fun (a_Kind : Int) (a_N : Int) (a_S : List UInt8) (b_Kind : Int) (b_N : Int) (b_S : List UInt8) (e : Unit) => jmp N (r2_Compare_R1 N ) (r2_Compare_E1 a_Kind a_N a_S b_Kind b_N b_S e) (r2_Compare_S1 a_Kind a_N a_S b_Kind b_N b_S e)) := by kernel_rfl
  rw [h]
  simp only [r2_Compare, r2_Compare_l1] <;> rfl
def r2_Compare_entO (m : T_Value → T_Value → Option (Int × Bool × Unit)) : Ent := specEnt [t_Value, t_Value] [(.int .i64), .bool] fun (x : Els [t_Value, t_Value]) => m x.1 x.2.1
def r2_Compare_ent (N : Nat) : Ent := r2_Compare_entO (r2_Compare N)
theorem r2_Compare_sound (N : Nat) : EntSound Try.prog 33 (r2_Compare_ent N) := specEnt_sound (r2_Compare_Ts N) Try.func33 rfl (by kernel_rfl) fun (x : Els [t_Value, t_Value]) => r2_Compare_run N x.1 x.2.1
def r2_Kind_H0 : LH := ⟨[(0, .lst t_Value), (3, .int .u8), (4, .int .i64)], [], []⟩
def r2_Kind_H1 : LH := ⟨[(0, .lst t_Value), (3, .int .u8), (5, .int .i64)], [], []⟩
def r2_Kind_H : FH := ⟨[r2_Kind_H0, r2_Kind_H1], [], [], [], false, [], []⟩
noncomputable def r2_Kind_T (N : Nat) : CallT := tab [(63, r2_Number_ent N)]
theorem r2_Kind_Ts (N : Nat) : CallSound Try.prog (r2_Kind_T N) := tab_cons (r2_Number_sound N) <| tab_nil _
noncomputable def r2_Kind_sc : Sc := scOf Try.prog r2_Kind_H
noncomputable def r2_Kind_cf (N : Nat) : Cfg := ⟨N, r2_Kind_T N, 0⟩
noncomputable def r2_Kind_fin (N : Nat) : Exit → List TV → List TOb → Option Int := fin Try.prog 0 Try.f65.results.toList (kPure [(.int .u8)])
def r2_Kind_E1 (l : List T_Value) (out : Int) (e : Int) : List TV := match e with
  | i => frm 45 [(0, .tl t_Value l .unk), (3, .int .u8 out), (4, .int .i64 i)]
def r2_Kind_S1 (l : List T_Value) (out : Int) (e : Int) : List TOb := match e with
  | i => []
def r2_Kind_E2 (l : List T_Value) (e : Int × Int) : List TV := match e with
  | (out1, i1) => frm 45 [(0, .tl t_Value l .unk), (3, .int .u8 out1), (5, .int .i64 i1)]
def r2_Kind_S2 (l : List T_Value) (e : Int × Int) : List TOb := match e with
  | (out1, i1) => []
noncomputable def r2_Kind_R2 (N : Nat)  : (List TV → List TOb → Option Int) → List TV → List TOb → Option Int := rawL DR r2_Kind_sc (r2_Kind_cf N) (lopB (blkB (seqR (seqL (seqR (seqR (seqR (bodyOf Try.f65)))))))) r2_Kind_H1 (r2_Kind_H.loops.drop 2) (kBlk 2 (kSeq DR r2_Kind_sc (r2_Kind_cf N) (seqR (seqR (seqR (seqR (bodyOf Try.f65))))) (r2_Kind_H.loops.drop 2) (r2_Kind_fin N)))
def r2_Kind_B2 (N : Nat) (l : List T_Value)  (K1 : (Int × Int) → Option Int) (e : Int × Int) : Option Int :=
  match e with
  | (out1, i1) =>
    bif decide (i1 < (l.length : Int)) then
      bif inR i1 l.length then
      bif (((nthD l i1 d_Value).1) == 0) then
        some 0
      else
        bif inR i1 l.length then
        bif (((nthD l i1 d_Value).1) == 2) then
          bif inI64 (i1 + 1) then
          K1 (2, i1 + 1)
          else none
        else
          bif inI64 (i1 + 1) then
          K1 (out1, i1 + 1)
          else none
        else none
      else none
    else
      some out1
theorem r2_Kind_l2 (N : Nat) (l : List T_Value)  (n : Nat) (e : Int × Int) : iterF (r2_Kind_R2 N ) n ((r2_Kind_E2 l) e) ((r2_Kind_S2 l) e) = iter (r2_Kind_B2 N l ) n e :=
  loop_iter (r2_Kind_E2 l) (r2_Kind_S2 l) (by intro K e; obtain ⟨out1, i1⟩ := e; kernel_rfl) n e
noncomputable def r2_Kind_R1 (N : Nat)  : (List TV → List TOb → Option Int) → List TV → List TOb → Option Int := rawL DR r2_Kind_sc (r2_Kind_cf N) (lopB (blkB (seqR (seqL (seqR (seqR (bodyOf Try.f65))))))) r2_Kind_H0 (r2_Kind_H.loops.drop 1) (kBlk 0 (kSeq DR r2_Kind_sc (r2_Kind_cf N) (seqR (seqR (seqR (bodyOf Try.f65)))) (r2_Kind_H.loops.drop 1) (r2_Kind_fin N)))
def r2_Kind_B1t (N : Nat) (l : List T_Value) (out : Int)  (l2 : (List T_Value) → (Int × Int) → Option Int) (K0 : Int → Option Int) (e : Int) : Option Int :=
  match e with
  | i =>
    bif decide (i < (l.length : Int)) then
      bif inR i l.length then
      (r2_Number N (nthD l i d_Value)).bind fun (r : Bool) =>
      bif (!r) then
        bif inR i l.length then
        bif (((nthD l i d_Value).1) != 0) then
          some 9
        else
          bif inI64 (i + 1) then
          K0 (i + 1)
          else none
        else none
      else
        bif inI64 (i + 1) then
        K0 (i + 1)
        else none
      else none
    else
      l2 l (out, 0)
def r2_Kind_B1 (N : Nat) (l : List T_Value) (out : Int)  (K0 : Int → Option Int) (e : Int) : Option Int := r2_Kind_B1t N l out  (fun (l : List T_Value) (e : Int × Int) => iter (r2_Kind_B2 N l) N e) K0 e
theorem r2_Kind_l1 (N : Nat) (l : List T_Value) (out : Int)  (n : Nat) (e : Int) : iterF (r2_Kind_R1 N ) n ((r2_Kind_E1 l out) e) ((r2_Kind_S1 l out) e) = iter (r2_Kind_B1 N l out ) n e :=
  loop_iter (r2_Kind_E1 l out) (r2_Kind_S1 l out) (by
    intro K e
    have h : (r2_Kind_R1 N ) K ((r2_Kind_E1 l out) e) ((r2_Kind_S1 l out) e) = r2_Kind_B1t N l out  (fun (l : List T_Value) (e : Int × Int) => iterF (r2_Kind_R2 N ) N (r2_Kind_E2 l e) (r2_Kind_S2 l e)) (fun e => K ((r2_Kind_E1 l out) e) ((r2_Kind_S1 l out) e)) e := by kernel_rfl
    rw [h]
    simp only [r2_Kind_B1, r2_Kind_l2] <;> rfl) n e
def r2_Kind_t (N : Nat) (l : List T_Value) (l1 : (List T_Value) → Int → Int → Option Int) : Option Int :=
  l1 l 1 0
def r2_Kind (N : Nat) (l : List T_Value) : Option Int := r2_Kind_t N l (fun (l : List T_Value) (out : Int) (e : Int) => iter (r2_Kind_B1 N l out) N e)
noncomputable def r2_Kind_C (N : Nat) (l : List T_Value) : Option (RT [(.int .u8)]) := callBody DR Try.prog N (r2_Kind_T N) r2_Kind_H Try.f65 (bodyOf Try.f65) (RT [(.int .u8)]) (encA [(.list t_Value)] (l, ())) [] (kPure [(.int .u8)])
theorem r2_Kind_run (N : Nat) (l : List T_Value) : r2_Kind_C N l = r2_Kind N l := by
  have h : r2_Kind_C N l = r2_Kind_t N l (fun (l : List T_Value) (out : Int) (e : Int) => iterF (r2_Kind_R1 N ) N (r2_Kind_E1 l out e) (r2_Kind_S1 l out e)) := by kernel_rfl
  rw [h]
  simp only [r2_Kind, r2_Kind_l1] <;> rfl
def r2_Kind_entO (m : (List T_Value) → Option Int) : Ent := specEnt [(.list t_Value)] [(.int .u8)] fun (x : Els [(.list t_Value)]) => m x.1
def r2_Kind_ent (N : Nat) : Ent := r2_Kind_entO (r2_Kind N)
theorem r2_Kind_sound (N : Nat) : EntSound Try.prog 65 (r2_Kind_ent N) := specEnt_sound (r2_Kind_Ts N) Try.func65 rfl (by kernel_rfl) fun (x : Els [(.list t_Value)]) => r2_Kind_run N x.1
def r2_As_H : FH := ⟨[], [], [], [], false, [], []⟩
noncomputable def r2_As_T (N : Nat) : CallT := tab [(6, r1_Of_ent N), (64, r2_Worth_ent N), (44, r1_N_Int_ent N)]
theorem r2_As_Ts (N : Nat) : CallSound Try.prog (r2_As_T N) := tab_cons (r1_Of_sound N) <| tab_cons (r2_Worth_sound N) <| tab_cons (r1_N_Int_sound N) <| tab_nil _
def r2_As (N : Nat) (v : T_Value) (kind : Int) : Option (T_Value × Int × Unit) :=
  (r1_Of N v.2.1).bind fun (r : T_N1) =>
  bif (v.1 == 1) then
    bif (kind == 2) then
      (r2_Worth N v).bind fun (r1 : T_N1) =>
      (r1_N_Int N r1).bind fun (r2 : Int × Int × Unit) =>
      bif (r2.2.1 != 0) then
        some ((0, 0, [], ()), r2.2.1, ())
      else
        some ((kind, r2.1, [], ()), 0, ())
    else
      (r1_N_Int N r).bind fun (r3 : Int × Int × Unit) =>
      bif (r3.2.1 != 0) then
        some ((0, 0, [], ()), r3.2.1, ())
      else
        some ((kind, r3.1, [], ()), 0, ())
  else
    (r1_N_Int N r).bind fun (r4 : Int × Int × Unit) =>
    bif (r4.2.1 != 0) then
      some ((0, 0, [], ()), r4.2.1, ())
    else
      some ((kind, r4.1, [], ()), 0, ())
noncomputable def r2_As_C (N : Nat) (v : T_Value) (kind : Int) : Option (RT [t_Value, (.int .i64)]) := callBody DR Try.prog N (r2_As_T N) r2_As_H Try.f66 (bodyOf Try.f66) (RT [t_Value, (.int .i64)]) (encA [t_Value, (.int .u8)] (v, kind, ())) [] (kPure [t_Value, (.int .i64)])
theorem r2_As_run (N : Nat) (v : T_Value) (kind : Int) : r2_As_C N v kind = r2_As N v kind := by kernel_rfl
def r2_As_entO (m : T_Value → Int → Option (T_Value × Int × Unit)) : Ent := specEnt [t_Value, (.int .u8)] [t_Value, (.int .i64)] fun (x : Els [t_Value, (.int .u8)]) => m x.1 x.2.1
def r2_As_ent (N : Nat) : Ent := r2_As_entO (r2_As N)
theorem r2_As_sound (N : Nat) : EntSound Try.prog 66 (r2_As_ent N) := specEnt_sound (r2_As_Ts N) Try.func66 rfl (by kernel_rfl) fun (x : Els [t_Value, (.int .u8)]) => r2_As_run N x.1 x.2.1
def r2_Do_H : FH := ⟨[], [], [(12, ⟨10, 116, 3, [(7, .alloc 0), (8, .alloc 1), (9, .alloc 2)], []⟩), (22, ⟨4, 116, 0, [], []⟩), (14, ⟨4, 116, 0, [], []⟩)], [], false, [], [(21, ⟨[(0, .int .u8), (6, .asis), (8, .int .u8), (11, .asis), (12, .asis), (13, .asis), (14, .asis), (15, .asis)], [], [.cells [.int .u8, .int .i64, .str], .cells [.int .u8, .int .i64, .str], .cells [.int .u8, .int .i64, .str], .cells [.int .u8, .int .i64, .str], .cells [.int .u8, .int .i64, .str], .cells [.bool, .lst (.int .i64)], .cells [.bool, .lst (.int .i64)], .cells [.bool, .lst (.int .i64)], .cells [.bool, .lst (.int .i64)]]⟩), (27, ⟨[(6, .asis), (8, .int .u8), (15, .asis)], [], [.cells [.int .u8, .int .i64, .str], .cells [.int .u8, .int .i64, .str], .cells [.int .u8, .int .i64, .str], .cells [.int .u8, .int .i64, .str], .cells [.int .u8, .int .i64, .str], .cells [.bool, .lst (.int .i64)], .cells [.bool, .lst (.int .i64)], .cells [.bool, .lst (.int .i64)], .cells [.bool, .lst (.int .i64)]]⟩)]⟩
noncomputable def r2_Do_T (N : Nat) : CallT := tab [(65, r2_Kind_ent N), (66, r2_As_ent N), (6, r1_Of_ent N), (13, r1_Add_ent N), (14, r1_Sub_ent N), (15, r1_Mul_ent N), (16, r1_Even_ent N), (21, r1_Quo_ent N), (44, r1_N_Int_ent N)]
theorem r2_Do_Ts (N : Nat) : CallSound Try.prog (r2_Do_T N) := tab_cons (r2_Kind_sound N) <| tab_cons (r2_As_sound N) <| tab_cons (r1_Of_sound N) <| tab_cons (r1_Add_sound N) <| tab_cons (r1_Sub_sound N) <| tab_cons (r1_Mul_sound N) <| tab_cons (r1_Even_sound N) <| tab_cons (r1_Quo_sound N) <| tab_cons (r1_N_Int_sound N) <| tab_nil _
noncomputable def r2_Do_sc : Sc := scOf Try.prog r2_Do_H
noncomputable def r2_Do_cf (N : Nat) : Cfg := ⟨N, r2_Do_T N, 0⟩
noncomputable def r2_Do_fin (N : Nat) : Exit → List TV → List TOb → Option (T_Value × Int × Unit) := fin Try.prog 0 Try.f35.results.toList (kPure [t_Value, (.int .i64)])
def r2_Do_E2 (op : Int) (r : Int) (o0_Kind : Int) (o0_N : Int) (o0_S : List UInt8) (o1_Kind : Int) (o1_N : Int) (o1_S : List UInt8) (o3_Kind : Int) (o3_N : Int) (o3_S : List UInt8) (y_Kind : Int) (y_N : Int) (y_S : List UInt8) (p_Neg : Bool) (p_D : List Int) (q_Neg : Bool) (q_D : List Int) (unit_Neg : Bool) (unit_D : List Int) (e : Unit) : List TV := frm 116 [(0, .int .u8 op), (6, .ref 2 0), (8, .int .u8 r), (11, .ref 4 0), (12, .ref 5 0), (13, .ref 6 0), (14, .ref 7 0), (15, .ref 8 0)]
def r2_Do_S2 (op : Int) (r : Int) (o0_Kind : Int) (o0_N : Int) (o0_S : List UInt8) (o1_Kind : Int) (o1_N : Int) (o1_S : List UInt8) (o3_Kind : Int) (o3_N : Int) (o3_S : List UInt8) (y_Kind : Int) (y_N : Int) (y_S : List UInt8) (p_Neg : Bool) (p_D : List Int) (q_Neg : Bool) (q_D : List Int) (unit_Neg : Bool) (unit_D : List Int) (e : Unit) : List TOb := [.cells [.int .u8 o0_Kind, .int .i64 o0_N, .str o0_S] 37 true, .cells [.int .u8 o1_Kind, .int .i64 o1_N, .str o1_S] 37 true, .cells [.int .u8 0, .int .i64 0, .str []] 37 true, .cells [.int .u8 o3_Kind, .int .i64 o3_N, .str o3_S] 37 true, .cells [.int .u8 y_Kind, .int .i64 y_N, .str y_S] 37 true, .cells [.bool p_Neg, .tl (.int .i64) p_D .unk] 24 true, .cells [.bool q_Neg, .tl (.int .i64) q_D .unk] 24 true, .cells [.bool unit_Neg, .tl (.int .i64) unit_D .unk] 24 true, .cells [.bool false, .tl (.int .i64) [] .unk] 24 true]
def r2_Do_E1 (r : Int) (e : Int × Int × List UInt8 × Int × Int × List UInt8 × Int × Int × List UInt8 × Int × Int × List UInt8 × Bool × List Int × Bool × List Int × Bool × List Int × Bool × List Int) : List TV := match e with
  | (o0_Kind1, o0_N1, o0_S1, o1_Kind1, o1_N1, o1_S1, o3_Kind1, o3_N1, o3_S1, o4_Kind, o4_N, o4_S, o5_Neg, o5_D, o6_Neg, o6_D, o7_Neg, o7_D, n_Neg, n_D) => frm 116 [(6, .ref 2 0), (8, .int .u8 r), (15, .ref 8 0)]
def r2_Do_S1 (r : Int) (e : Int × Int × List UInt8 × Int × Int × List UInt8 × Int × Int × List UInt8 × Int × Int × List UInt8 × Bool × List Int × Bool × List Int × Bool × List Int × Bool × List Int) : List TOb := match e with
  | (o0_Kind1, o0_N1, o0_S1, o1_Kind1, o1_N1, o1_S1, o3_Kind1, o3_N1, o3_S1, o4_Kind, o4_N, o4_S, o5_Neg, o5_D, o6_Neg, o6_D, o7_Neg, o7_D, n_Neg, n_D) => [.cells [.int .u8 o0_Kind1, .int .i64 o0_N1, .str o0_S1] 37 true, .cells [.int .u8 o1_Kind1, .int .i64 o1_N1, .str o1_S1] 37 true, .cells [.int .u8 0, .int .i64 0, .str []] 37 true, .cells [.int .u8 o3_Kind1, .int .i64 o3_N1, .str o3_S1] 37 true, .cells [.int .u8 o4_Kind, .int .i64 o4_N, .str o4_S] 37 true, .cells [.bool o5_Neg, .tl (.int .i64) o5_D .unk] 24 true, .cells [.bool o6_Neg, .tl (.int .i64) o6_D .unk] 24 true, .cells [.bool o7_Neg, .tl (.int .i64) o7_D .unk] 24 true, .cells [.bool n_Neg, .tl (.int .i64) n_D .unk] 24 true]
noncomputable def r2_Do_R1 (N : Nat)  : List TV → List TOb → Option (T_Value × Int × Unit) := rawJ DR r2_Do_sc (r2_Do_cf N) (seqL (seqR (seqR (seqR (seqR (seqR (seqR (seqR (seqR (seqR (seqR (seqR (bodyOf Try.f35))))))))))))) (kSeq DR r2_Do_sc (r2_Do_cf N) (seqR (seqR (seqR (seqR (seqR (seqR (seqR (seqR (seqR (seqR (seqR (seqR (bodyOf Try.f35))))))))))))) (r2_Do_H.loops.drop 0) (r2_Do_fin N))
def r2_Do_B1 (N : Nat) (r : Int)   (e : Int × Int × List UInt8 × Int × Int × List UInt8 × Int × Int × List UInt8 × Int × Int × List UInt8 × Bool × List Int × Bool × List Int × Bool × List Int × Bool × List Int) : Option (T_Value × Int × Unit) :=
  match e with
  | (o0_Kind1, o0_N1, o0_S1, o1_Kind1, o1_N1, o1_S1, o3_Kind1, o3_N1, o3_S1, o4_Kind, o4_N, o4_S, o5_Neg, o5_D, o6_Neg, o6_D, o7_Neg, o7_D, n_Neg, n_D) =>
    (r1_N_Int N (n_Neg, n_D, ())).bind fun (r14 : Int × Int × Unit) =>
    bif (r14.2.1 != 0) then
      some ((0, 0, [], ()), r14.2.1, ())
    else
      some ((r, r14.1, [], ()), 0, ())
theorem r2_Do_l1 (N : Nat) (r : Int)  (e : Int × Int × List UInt8 × Int × Int × List UInt8 × Int × Int × List UInt8 × Int × Int × List UInt8 × Bool × List Int × Bool × List Int × Bool × List Int × Bool × List Int) : jmp N (r2_Do_R1 N ) ((r2_Do_E1 r) e) ((r2_Do_S1 r) e) = at1 N (r2_Do_B1 N r  e) := jmp_at (by obtain ⟨o0_Kind1, o0_N1, o0_S1, o1_Kind1, o1_N1, o1_S1, o3_Kind1, o3_N1, o3_S1, o4_Kind, o4_N, o4_S, o5_Neg, o5_D, o6_Neg, o6_D, o7_Neg, o7_D, n_Neg, n_D⟩ := e; kernel_rfl) N
noncomputable def r2_Do_R2 (N : Nat)  : List TV → List TOb → Option (T_Value × Int × Unit) := rawJ DR r2_Do_sc (r2_Do_cf N) (seqL (conR (seqR (conR (seqR (conR (seqR (blkB (seqL (seqR (seqR (seqR (seqR (seqR (seqR (seqR (seqR (seqR (seqR (bodyOf Try.f35)))))))))))))))))))) (kSeq DR r2_Do_sc (r2_Do_cf N) (seqR (conR (seqR (conR (seqR (conR (seqR (blkB (seqL (seqR (seqR (seqR (seqR (seqR (seqR (seqR (seqR (seqR (seqR (bodyOf Try.f35)))))))))))))))))))) (r2_Do_H.loops.drop 0) (kBlk 0 (kSeq DR r2_Do_sc (r2_Do_cf N) (seqR (seqR (seqR (seqR (seqR (seqR (seqR (seqR (seqR (seqR (seqR (bodyOf Try.f35)))))))))))) (r2_Do_H.loops.drop 0) (r2_Do_fin N))))
def r2_Do_B2t (N : Nat) (op : Int) (r : Int) (o0_Kind : Int) (o0_N : Int) (o0_S : List UInt8) (o1_Kind : Int) (o1_N : Int) (o1_S : List UInt8) (o3_Kind : Int) (o3_N : Int) (o3_S : List UInt8) (y_Kind : Int) (y_N : Int) (y_S : List UInt8) (p_Neg : Bool) (p_D : List Int) (q_Neg : Bool) (q_D : List Int) (unit_Neg : Bool) (unit_D : List Int)  (l1 : Int → (Int × Int × List UInt8 × Int × Int × List UInt8 × Int × Int × List UInt8 × Int × Int × List UInt8 × Bool × List Int × Bool × List Int × Bool × List Int × Bool × List Int) → Option (T_Value × Int × Unit))  (e : Unit) : Option (T_Value × Int × Unit) :=
  bif (op == 42) then
    (r1_Mul N (p_Neg, p_D, ()) (q_Neg, q_D, ())).bind fun (r9 : T_N1) =>
    (r1_Even N r9 (unit_Neg, unit_D, ())).bind fun (r10 : T_N1) =>
    l1 r (o0_Kind, o0_N, o0_S, o1_Kind, o1_N, o1_S, o3_Kind, o3_N, o3_S, y_Kind, y_N, y_S, p_Neg, p_D, q_Neg, q_D, unit_Neg, unit_D, r10.1, r10.2.1)
  else
    bif (y_N == 0) then
      some ((0, 0, [], ()), 10, ())
    else
      bif (r == 1) then
        (r1_Quo N (p_Neg, p_D, ()) (q_Neg, q_D, ())).bind fun (r11 : T_N1 × T_N1 × Unit) =>
        l1 r (o0_Kind, o0_N, o0_S, o1_Kind, o1_N, o1_S, o3_Kind, o3_N, o3_S, y_Kind, y_N, y_S, p_Neg, p_D, q_Neg, q_D, unit_Neg, unit_D, r11.1.1, r11.1.2.1)
      else
        (r1_Mul N (p_Neg, p_D, ()) (unit_Neg, unit_D, ())).bind fun (r12 : T_N1) =>
        (r1_Even N r12 (q_Neg, q_D, ())).bind fun (r13 : T_N1) =>
        l1 r (o0_Kind, o0_N, o0_S, o1_Kind, o1_N, o1_S, o3_Kind, o3_N, o3_S, y_Kind, y_N, y_S, p_Neg, p_D, q_Neg, q_D, unit_Neg, unit_D, r13.1, r13.2.1)
def r2_Do_B2 (N : Nat) (op : Int) (r : Int) (o0_Kind : Int) (o0_N : Int) (o0_S : List UInt8) (o1_Kind : Int) (o1_N : Int) (o1_S : List UInt8) (o3_Kind : Int) (o3_N : Int) (o3_S : List UInt8) (y_Kind : Int) (y_N : Int) (y_S : List UInt8) (p_Neg : Bool) (p_D : List Int) (q_Neg : Bool) (q_D : List Int) (unit_Neg : Bool) (unit_D : List Int)   (e : Unit) : Option (T_Value × Int × Unit) := r2_Do_B2t N op r o0_Kind o0_N o0_S o1_Kind o1_N o1_S o3_Kind o3_N o3_S y_Kind y_N y_S p_Neg p_D q_Neg q_D unit_Neg unit_D  (fun (r : Int) (e : Int × Int × List UInt8 × Int × Int × List UInt8 × Int × Int × List UInt8 × Int × Int × List UInt8 × Bool × List Int × Bool × List Int × Bool × List Int × Bool × List Int) => at1 N (r2_Do_B1 N r e))  e
theorem r2_Do_l2 (N : Nat) (op : Int) (r : Int) (o0_Kind : Int) (o0_N : Int) (o0_S : List UInt8) (o1_Kind : Int) (o1_N : Int) (o1_S : List UInt8) (o3_Kind : Int) (o3_N : Int) (o3_S : List UInt8) (y_Kind : Int) (y_N : Int) (y_S : List UInt8) (p_Neg : Bool) (p_D : List Int) (q_Neg : Bool) (q_D : List Int) (unit_Neg : Bool) (unit_D : List Int)  (e : Unit) : jmp N (r2_Do_R2 N ) ((r2_Do_E2 op r o0_Kind o0_N o0_S o1_Kind o1_N o1_S o3_Kind o3_N o3_S y_Kind y_N y_S p_Neg p_D q_Neg q_D unit_Neg unit_D) e) ((r2_Do_S2 op r o0_Kind o0_N o0_S o1_Kind o1_N o1_S o3_Kind o3_N o3_S y_Kind y_N y_S p_Neg p_D q_Neg q_D unit_Neg unit_D) e) = at1 N (r2_Do_B2 N op r o0_Kind o0_N o0_S o1_Kind o1_N o1_S o3_Kind o3_N o3_S y_Kind y_N y_S p_Neg p_D q_Neg q_D unit_Neg unit_D  e) := jmp_at (by
  have h : (r2_Do_R2 N ) ((r2_Do_E2 op r o0_Kind o0_N o0_S o1_Kind o1_N o1_S o3_Kind o3_N o3_S y_Kind y_N y_S p_Neg p_D q_Neg q_D unit_Neg unit_D) e) ((r2_Do_S2 op r o0_Kind o0_N o0_S o1_Kind o1_N o1_S o3_Kind o3_N o3_S y_Kind y_N y_S p_Neg p_D q_Neg q_D unit_Neg unit_D) e) = r2_Do_B2t N op r o0_Kind o0_N o0_S o1_Kind o1_N o1_S o3_Kind o3_N o3_S y_Kind y_N y_S p_Neg p_D q_Neg q_D unit_Neg unit_D  (fun (r : Int) (e : Int × Int × List UInt8 × Int × Int × List UInt8 × Int × Int × List UInt8 × Int × Int × List UInt8 × Bool × List Int × Bool × List Int × Bool × List Int × Bool × List Int) => jmp N (r2_Do_R1 N ) (r2_Do_E1 r e) (r2_Do_S1 r e)) e := by kernel_rfl
  rw [h]
  simp only [r2_Do_B2, r2_Do_l1] <;> rfl) N
def r2_Do_t (N : Nat) (op : Int) (a : T_Value) (b : T_Value) (l1 : Int → (Int × Int × List UInt8 × Int × Int × List UInt8 × Int × Int × List UInt8 × Int × Int × List UInt8 × Bool × List Int × Bool × List Int × Bool × List Int × Bool × List Int) → Option (T_Value × Int × Unit)) (l2 : Int → Int → Int → Int → (List UInt8) → Int → Int → (List UInt8) → Int → Int → (List UInt8) → Int → Int → (List UInt8) → Bool → (List Int) → Bool → (List Int) → Bool → (List Int) → Unit → Option (T_Value × Int × Unit)) : Option (T_Value × Int × Unit) :=
  (r2_Kind N ([a, b] : List T_Value)).bind fun (r : Int) =>
  bif (r == 9) then
    some ((0, 0, [], ()), 8, ())
  else
    bif (r == 0) then
      some ((0, 0, [], ()), 0, ())
    else
      (r2_As N a r).bind fun (r1 : T_Value × Int × Unit) =>
      bif (r1.2.1 != 0) then
        some ((0, 0, [], ()), r1.2.1, ())
      else
        (r2_As N b r).bind fun (r2 : T_Value × Int × Unit) =>
        bif (r2.2.1 != 0) then
          some ((0, 0, [], ()), r2.2.1, ())
        else
          (r1_Of N r1.1.2.1).bind fun (r3 : T_N1) =>
          (r1_Of N r2.1.2.1).bind fun (r4 : T_N1) =>
          (r1_Of N 10000).bind fun (r5 : T_N1) =>
          bif (op == 43) then
            (r1_Add N r3 r4).bind fun (r6 : T_N1) =>
            l1 r (a.1, a.2.1, a.2.2.1, b.1, b.2.1, b.2.2.1, r1.1.1, r1.1.2.1, r1.1.2.2.1, r2.1.1, r2.1.2.1, r2.1.2.2.1, r3.1, r3.2.1, r4.1, r4.2.1, r5.1, r5.2.1, r6.1, r6.2.1)
          else
            bif (op == 45) then
              (r1_Sub N r3 r4).bind fun (r7 : T_N1) =>
              l1 r (a.1, a.2.1, a.2.2.1, b.1, b.2.1, b.2.2.1, r1.1.1, r1.1.2.1, r1.1.2.2.1, r2.1.1, r2.1.2.1, r2.1.2.2.1, r3.1, r3.2.1, r4.1, r4.2.1, r5.1, r5.2.1, r7.1, r7.2.1)
            else
              bif (op == 42) then
                bif (r == 1) then
                  (r1_Mul N r3 r4).bind fun (r8 : T_N1) =>
                  l1 r (a.1, a.2.1, a.2.2.1, b.1, b.2.1, b.2.2.1, r1.1.1, r1.1.2.1, r1.1.2.2.1, r2.1.1, r2.1.2.1, r2.1.2.2.1, r3.1, r3.2.1, r4.1, r4.2.1, r5.1, r5.2.1, r8.1, r8.2.1)
                else
                  l2 op r a.1 a.2.1 a.2.2.1 b.1 b.2.1 b.2.2.1 r1.1.1 r1.1.2.1 r1.1.2.2.1 r2.1.1 r2.1.2.1 r2.1.2.2.1 r3.1 r3.2.1 r4.1 r4.2.1 r5.1 r5.2.1 ()
              else
                l2 op r a.1 a.2.1 a.2.2.1 b.1 b.2.1 b.2.2.1 r1.1.1 r1.1.2.1 r1.1.2.2.1 r2.1.1 r2.1.2.1 r2.1.2.2.1 r3.1 r3.2.1 r4.1 r4.2.1 r5.1 r5.2.1 ()
def r2_Do (N : Nat) (op : Int) (a : T_Value) (b : T_Value) : Option (T_Value × Int × Unit) := r2_Do_t N op a b (fun (r : Int) (e : Int × Int × List UInt8 × Int × Int × List UInt8 × Int × Int × List UInt8 × Int × Int × List UInt8 × Bool × List Int × Bool × List Int × Bool × List Int × Bool × List Int) => at1 N (r2_Do_B1 N r e)) (fun (op : Int) (r : Int) (o0_Kind : Int) (o0_N : Int) (o0_S : List UInt8) (o1_Kind : Int) (o1_N : Int) (o1_S : List UInt8) (o3_Kind : Int) (o3_N : Int) (o3_S : List UInt8) (y_Kind : Int) (y_N : Int) (y_S : List UInt8) (p_Neg : Bool) (p_D : List Int) (q_Neg : Bool) (q_D : List Int) (unit_Neg : Bool) (unit_D : List Int) (e : Unit) => at1 N (r2_Do_B2 N op r o0_Kind o0_N o0_S o1_Kind o1_N o1_S o3_Kind o3_N o3_S y_Kind y_N y_S p_Neg p_D q_Neg q_D unit_Neg unit_D e))
noncomputable def r2_Do_C (N : Nat) (op : Int) (a : T_Value) (b : T_Value) : Option (RT [t_Value, (.int .i64)]) := callBody DR Try.prog N (r2_Do_T N) r2_Do_H Try.f35 (bodyOf Try.f35) (RT [t_Value, (.int .i64)]) (encA [(.int .u8), t_Value, t_Value] (op, a, b, ())) [] (kPure [t_Value, (.int .i64)])
theorem r2_Do_run (N : Nat) (op : Int) (a : T_Value) (b : T_Value) : r2_Do_C N op a b = r2_Do N op a b := by
  have h : r2_Do_C N op a b = r2_Do_t N op a b (fun (r : Int) (e : Int × Int × List UInt8 × Int × Int × List UInt8 × Int × Int × List UInt8 × Int × Int × List UInt8 × Bool × List Int × Bool × List Int × Bool × List Int × Bool × List Int) => jmp N (r2_Do_R1 N ) (r2_Do_E1 r e) (r2_Do_S1 r e)) (fun (op : Int) (r : Int) (o0_Kind : Int) (o0_N : Int) (o0_S : List UInt8) (o1_Kind : Int) (o1_N : Int) (o1_S : List UInt8) (o3_Kind : Int) (o3_N : Int) (o3_S : List UInt8) (y_Kind : Int) (y_N : Int) (y_S : List UInt8) (p_Neg : Bool) (p_D : List Int) (q_Neg : Bool) (q_D : List Int) (unit_Neg : Bool) (unit_D : List Int) (e : Unit) => jmp N (r2_Do_R2 N ) (r2_Do_E2 op r o0_Kind o0_N o0_S o1_Kind o1_N o1_S o3_Kind o3_N o3_S y_Kind y_N y_S p_Neg p_D q_Neg q_D unit_Neg unit_D e) (r2_Do_S2 op r o0_Kind o0_N o0_S o1_Kind o1_N o1_S o3_Kind o3_N o3_S y_Kind y_N y_S p_Neg p_D q_Neg q_D unit_Neg unit_D e)) := by kernel_rfl
  rw [h]
  simp only [r2_Do, r2_Do_l1, r2_Do_l2] <;> rfl
def r2_Do_entO (m : Int → T_Value → T_Value → Option (T_Value × Int × Unit)) : Ent := specEnt [(.int .u8), t_Value, t_Value] [t_Value, (.int .i64)] fun (x : Els [(.int .u8), t_Value, t_Value]) => m x.1 x.2.1 x.2.2.1
def r2_Do_ent (N : Nat) : Ent := r2_Do_entO (r2_Do N)
theorem r2_Do_sound (N : Nat) : EntSound Try.prog 35 (r2_Do_ent N) := specEnt_sound (r2_Do_Ts N) Try.func35 rfl (by kernel_rfl) fun (x : Els [(.int .u8), t_Value, t_Value]) => r2_Do_run N x.1 x.2.1 x.2.2.1
def value_do_v2_H : FH := ⟨[], [], [(8, ⟨16, 54, 0, [], []⟩)], [], false, [], []⟩
noncomputable def value_do_v2_T (N : Nat) : CallT := tab [(73, value_alike_ent N), (11, num_MulDec_ent N), (74, value_do_1_i_ent N), (9, num_Mul_ent N)]
theorem value_do_v2_Ts (N : Nat) : CallSound Try.prog (value_do_v2_T N) := tab_cons (value_alike_sound N) <| tab_cons (num_MulDec_sound N) <| tab_cons (value_do_1_i_sound N) <| tab_cons (num_Mul_sound N) <| tab_nil _
def value_do_v2 (N : Nat) (a : T_Value) (b : T_Value) : Option (T_Value × Int × Unit) :=
  (value_alike N ([a, b] : List T_Value)).bind fun (r : (List T_Value) × Bool × Int × Unit) =>
  bif r.2.1 then
    some ((0, 0, [], ()), r.2.2.1, ())
  else
    bif (r.2.2.1 != 0) then
      some ((0, 0, [], ()), r.2.2.1, ())
    else
      bif inR 0 r.1.length then
      bif (((nthD r.1 0 d_Value).1) == 2) then
        bif inR 0 r.1.length then
        bif inR 1 r.1.length then
        (num_MulDec N ((nthD r.1 0 d_Value).2.1) ((nthD r.1 1 d_Value).2.1)).bind fun (r1 : Int × Int × Unit) =>
        bif (r1.2.1 != 0) then
          some ((0, 0, [], ()), r1.2.1, ())
        else
          bif inR 0 r.1.length then
          some (((nthD r.1 0 d_Value).1, r1.1, [], ()), 0, ())
          else none
        else none
        else none
      else
        bif inR 0 r.1.length then
        bif inR 1 r.1.length then
        (num_Mul N ((nthD r.1 0 d_Value).2.1) ((nthD r.1 1 d_Value).2.1)).bind fun (r2 : Int × Int × Unit) =>
        bif (r2.2.1 != 0) then
          some ((0, 0, [], ()), r2.2.1, ())
        else
          bif inR 0 r.1.length then
          some (((nthD r.1 0 d_Value).1, r2.1, [], ()), 0, ())
          else none
        else none
        else none
      else none
abbrev value_do_v2_ps : List PK := [.val t_Value, .val t_Value, .fn 9 0, .fn 11 0]
noncomputable def value_do_v2_C (N : Nat) (a : T_Value) (b : T_Value) : Option (RT [t_Value, (.int .i64)]) := callBody DR Try.prog N (value_do_v2_T N) value_do_v2_H Try.f59 (bodyOf Try.f59) (RT [t_Value, (.int .i64)]) (encA2 value_do_v2_ps (a, b, ())) [] (kPure [t_Value, (.int .i64)])
theorem value_do_v2_run (N : Nat) (a : T_Value) (b : T_Value) : value_do_v2_C N a b = value_do_v2 N a b := by kernel_rfl
def value_do_v2_entO (m : T_Value → T_Value → Option (T_Value × Int × Unit)) : Ent := patEnt value_do_v2_ps [t_Value, (.int .i64)] fun (x : Els [t_Value, t_Value]) => m x.1 x.2.1
def value_do_v2_ent (N : Nat) : Ent := value_do_v2_entO (value_do_v2 N)
theorem value_do_v2_sound (N : Nat) : EntSound Try.prog 59 (value_do_v2_ent N) := patEnt_sound (value_do_v2_Ts N) Try.func59 rfl (by kernel_rfl) (by kernel_rfl) fun (x : Els [t_Value, t_Value]) => value_do_v2_run N x.1 x.2.1
def value_Mul_H : FH := ⟨[], [], [], [], false, [], []⟩
noncomputable def value_Mul_T (N : Nat) : CallT := tab [(59, value_do_v2_ent N)]
theorem value_Mul_Ts (N : Nat) : CallSound Try.prog (value_Mul_T N) := tab_cons (value_do_v2_sound N) <| tab_nil _
def value_Mul (N : Nat) (a : T_Value) (b : T_Value) : Option (T_Value × Int × Unit) :=
  (value_do_v2 N a b).bind fun (r : T_Value × Int × Unit) =>
  some r
noncomputable def value_Mul_C (N : Nat) (a : T_Value) (b : T_Value) : Option (RT [t_Value, (.int .i64)]) := callBody DR Try.prog N (value_Mul_T N) value_Mul_H Try.f36 (bodyOf Try.f36) (RT [t_Value, (.int .i64)]) (encA [t_Value, t_Value] (a, b, ())) [] (kPure [t_Value, (.int .i64)])
theorem value_Mul_run (N : Nat) (a : T_Value) (b : T_Value) : value_Mul_C N a b = value_Mul N a b := by kernel_rfl
def value_Mul_entO (m : T_Value → T_Value → Option (T_Value × Int × Unit)) : Ent := specEnt [t_Value, t_Value] [t_Value, (.int .i64)] fun (x : Els [t_Value, t_Value]) => m x.1 x.2.1
def value_Mul_ent (N : Nat) : Ent := value_Mul_entO (value_Mul N)
theorem value_Mul_sound (N : Nat) : EntSound Try.prog 36 (value_Mul_ent N) := specEnt_sound (value_Mul_Ts N) Try.func36 rfl (by kernel_rfl) fun (x : Els [t_Value, t_Value]) => value_Mul_run N x.1 x.2.1
def value_do_v3_H : FH := ⟨[], [], [(8, ⟨16, 54, 0, [], []⟩)], [], false, [], []⟩
noncomputable def value_do_v3_T (N : Nat) : CallT := tab [(73, value_alike_ent N), (19, num_DivDec_ent N), (74, value_do_1_i_ent N), (17, num_Quo_ent N)]
theorem value_do_v3_Ts (N : Nat) : CallSound Try.prog (value_do_v3_T N) := tab_cons (value_alike_sound N) <| tab_cons (num_DivDec_sound N) <| tab_cons (value_do_1_i_sound N) <| tab_cons (num_Quo_sound N) <| tab_nil _
def value_do_v3 (N : Nat) (a : T_Value) (b : T_Value) : Option (T_Value × Int × Unit) :=
  (value_alike N ([a, b] : List T_Value)).bind fun (r : (List T_Value) × Bool × Int × Unit) =>
  bif r.2.1 then
    some ((0, 0, [], ()), r.2.2.1, ())
  else
    bif (r.2.2.1 != 0) then
      some ((0, 0, [], ()), r.2.2.1, ())
    else
      bif inR 0 r.1.length then
      bif (((nthD r.1 0 d_Value).1) == 2) then
        bif inR 0 r.1.length then
        bif inR 1 r.1.length then
        (num_DivDec N ((nthD r.1 0 d_Value).2.1) ((nthD r.1 1 d_Value).2.1)).bind fun (r1 : Int × Int × Unit) =>
        bif (r1.2.1 != 0) then
          some ((0, 0, [], ()), r1.2.1, ())
        else
          bif inR 0 r.1.length then
          some (((nthD r.1 0 d_Value).1, r1.1, [], ()), 0, ())
          else none
        else none
        else none
      else
        bif inR 0 r.1.length then
        bif inR 1 r.1.length then
        (num_Quo N ((nthD r.1 0 d_Value).2.1) ((nthD r.1 1 d_Value).2.1)).bind fun (r2 : Int × Int × Unit) =>
        bif (r2.2.1 != 0) then
          some ((0, 0, [], ()), r2.2.1, ())
        else
          bif inR 0 r.1.length then
          some (((nthD r.1 0 d_Value).1, r2.1, [], ()), 0, ())
          else none
        else none
        else none
      else none
abbrev value_do_v3_ps : List PK := [.val t_Value, .val t_Value, .fn 17 0, .fn 19 0]
noncomputable def value_do_v3_C (N : Nat) (a : T_Value) (b : T_Value) : Option (RT [t_Value, (.int .i64)]) := callBody DR Try.prog N (value_do_v3_T N) value_do_v3_H Try.f59 (bodyOf Try.f59) (RT [t_Value, (.int .i64)]) (encA2 value_do_v3_ps (a, b, ())) [] (kPure [t_Value, (.int .i64)])
theorem value_do_v3_run (N : Nat) (a : T_Value) (b : T_Value) : value_do_v3_C N a b = value_do_v3 N a b := by kernel_rfl
def value_do_v3_entO (m : T_Value → T_Value → Option (T_Value × Int × Unit)) : Ent := patEnt value_do_v3_ps [t_Value, (.int .i64)] fun (x : Els [t_Value, t_Value]) => m x.1 x.2.1
def value_do_v3_ent (N : Nat) : Ent := value_do_v3_entO (value_do_v3 N)
theorem value_do_v3_sound (N : Nat) : EntSound Try.prog 59 (value_do_v3_ent N) := patEnt_sound (value_do_v3_Ts N) Try.func59 rfl (by kernel_rfl) (by kernel_rfl) fun (x : Els [t_Value, t_Value]) => value_do_v3_run N x.1 x.2.1
def value_Div_H : FH := ⟨[], [], [], [], false, [], []⟩
noncomputable def value_Div_T (N : Nat) : CallT := tab [(59, value_do_v3_ent N)]
theorem value_Div_Ts (N : Nat) : CallSound Try.prog (value_Div_T N) := tab_cons (value_do_v3_sound N) <| tab_nil _
def value_Div (N : Nat) (a : T_Value) (b : T_Value) : Option (T_Value × Int × Unit) :=
  (value_do_v3 N a b).bind fun (r : T_Value × Int × Unit) =>
  some r
noncomputable def value_Div_C (N : Nat) (a : T_Value) (b : T_Value) : Option (RT [t_Value, (.int .i64)]) := callBody DR Try.prog N (value_Div_T N) value_Div_H Try.f37 (bodyOf Try.f37) (RT [t_Value, (.int .i64)]) (encA [t_Value, t_Value] (a, b, ())) [] (kPure [t_Value, (.int .i64)])
theorem value_Div_run (N : Nat) (a : T_Value) (b : T_Value) : value_Div_C N a b = value_Div N a b := by kernel_rfl
def value_Div_entO (m : T_Value → T_Value → Option (T_Value × Int × Unit)) : Ent := specEnt [t_Value, t_Value] [t_Value, (.int .i64)] fun (x : Els [t_Value, t_Value]) => m x.1 x.2.1
def value_Div_ent (N : Nat) : Ent := value_Div_entO (value_Div N)
theorem value_Div_sound (N : Nat) : EntSound Try.prog 37 (value_Div_ent N) := specEnt_sound (value_Div_Ts N) Try.func37 rfl (by kernel_rfl) fun (x : Els [t_Value, t_Value]) => value_Div_run N x.1 x.2.1
def value_Neg_H : FH := ⟨[], [], [], [], false, [], []⟩
noncomputable def value_Neg_T (N : Nat) : CallT := tab [(26, value_Sub_ent N)]
theorem value_Neg_Ts (N : Nat) : CallSound Try.prog (value_Neg_T N) := tab_cons (value_Sub_sound N) <| tab_nil _
def value_Neg (N : Nat) (a : T_Value) : Option (T_Value × Int × Unit) :=
  (value_Sub N ((iMax (iMin a.1 (2 : Int)) (1 : Int)), 0, [], ()) a).bind fun (r : T_Value × Int × Unit) =>
  some r
noncomputable def value_Neg_C (N : Nat) (a : T_Value) : Option (RT [t_Value, (.int .i64)]) := callBody DR Try.prog N (value_Neg_T N) value_Neg_H Try.f38 (bodyOf Try.f38) (RT [t_Value, (.int .i64)]) (encA [t_Value] (a, ())) [] (kPure [t_Value, (.int .i64)])
theorem value_Neg_run (N : Nat) (a : T_Value) : value_Neg_C N a = value_Neg N a := by kernel_rfl
def value_Neg_entO (m : T_Value → Option (T_Value × Int × Unit)) : Ent := specEnt [t_Value] [t_Value, (.int .i64)] fun (x : Els [t_Value]) => m x.1
def value_Neg_ent (N : Nat) : Ent := value_Neg_entO (value_Neg N)
theorem value_Neg_sound (N : Nat) : EntSound Try.prog 38 (value_Neg_ent N) := specEnt_sound (value_Neg_Ts N) Try.func38 rfl (by kernel_rfl) fun (x : Els [t_Value]) => value_Neg_run N x.1
def r2_Neg_H : FH := ⟨[], [], [], [], false, [], []⟩
noncomputable def r2_Neg_T (N : Nat) : CallT := tab [(35, r2_Do_ent N)]
theorem r2_Neg_Ts (N : Nat) : CallSound Try.prog (r2_Neg_T N) := tab_cons (r2_Do_sound N) <| tab_nil _
def r2_Neg (N : Nat) (a : T_Value) : Option (T_Value × Int × Unit) :=
  bif (a.1 == 2) then
    (r2_Do N 45 (2, 0, [], ()) a).bind fun (r : T_Value × Int × Unit) =>
    some r
  else
    (r2_Do N 45 (1, 0, [], ()) a).bind fun (r1 : T_Value × Int × Unit) =>
    some r1
noncomputable def r2_Neg_C (N : Nat) (a : T_Value) : Option (RT [t_Value, (.int .i64)]) := callBody DR Try.prog N (r2_Neg_T N) r2_Neg_H Try.f39 (bodyOf Try.f39) (RT [t_Value, (.int .i64)]) (encA [t_Value] (a, ())) [] (kPure [t_Value, (.int .i64)])
theorem r2_Neg_run (N : Nat) (a : T_Value) : r2_Neg_C N a = r2_Neg N a := by kernel_rfl
def r2_Neg_entO (m : T_Value → Option (T_Value × Int × Unit)) : Ent := specEnt [t_Value] [t_Value, (.int .i64)] fun (x : Els [t_Value]) => m x.1
def r2_Neg_ent (N : Nat) : Ent := r2_Neg_entO (r2_Neg N)
theorem r2_Neg_sound (N : Nat) : EntSound Try.prog 39 (r2_Neg_ent N) := specEnt_sound (r2_Neg_Ts N) Try.func39 rfl (by kernel_rfl) fun (x : Els [t_Value]) => r2_Neg_run N x.1
def w2_ValueDoes_H : FH := ⟨[], [], [(1, ⟨11, 170, 0, [], []⟩)], [], false, [], []⟩
noncomputable def w2_ValueDoes_T (N : Nat) : CallT := tab [(30, value_May_ent N), (31, r2_May_ent N), (24, value_Order_ent N), (32, r2_Order_ent N), (25, value_Compare_ent N), (33, r2_Compare_ent N), (34, value_Add_ent N), (35, r2_Do_ent N), (26, value_Sub_ent N), (36, value_Mul_ent N), (37, value_Div_ent N), (38, value_Neg_ent N), (39, r2_Neg_ent N), (23, w2_known_ent N)]
theorem w2_ValueDoes_Ts (N : Nat) : CallSound Try.prog (w2_ValueDoes_T N) := tab_cons (value_May_sound N) <| tab_cons (r2_May_sound N) <| tab_cons (value_Order_sound N) <| tab_cons (r2_Order_sound N) <| tab_cons (value_Compare_sound N) <| tab_cons (r2_Compare_sound N) <| tab_cons (value_Add_sound N) <| tab_cons (r2_Do_sound N) <| tab_cons (value_Sub_sound N) <| tab_cons (value_Mul_sound N) <| tab_cons (value_Div_sound N) <| tab_cons (value_Neg_sound N) <| tab_cons (r2_Neg_sound N) <| tab_cons (w2_known_sound N) <| tab_nil _
def w2_ValueDoes (N : Nat) (a : T_Value) (b : T_Value) : Option Bool :=
  (value_May N a).bind fun (r : Bool) =>
  (r2_May N a).bind fun (r1 : Bool) =>
  bif (!(r == r1)) then
    some false
  else
    (value_Order N a b).bind fun (r2 : Int) =>
    (r2_Order N a b).bind fun (r3 : Int) =>
    bif (r2 != r3) then
      some false
    else
      (value_Compare N a b).bind fun (r4 : Int × Bool × Unit) =>
      (r2_Compare N a b).bind fun (r5 : Int × Bool × Unit) =>
      bif (r4.1 != r5.1) then
        some false
      else
        bif (!(r4.2.1 == r5.2.1)) then
          some false
        else
          (value_Add N a b).bind fun (r6 : T_Value × Int × Unit) =>
          (r2_Do N 43 a b).bind fun (r7 : T_Value × Int × Unit) =>
          (value_Sub N a b).bind fun (r8 : T_Value × Int × Unit) =>
          (r2_Do N 45 a b).bind fun (r9 : T_Value × Int × Unit) =>
          (value_Mul N a b).bind fun (r10 : T_Value × Int × Unit) =>
          (r2_Do N 42 a b).bind fun (r11 : T_Value × Int × Unit) =>
          bif (!((r6.1.1 == r7.1.1) && ((r6.1.2.1 == r7.1.2.1) && ((r6.1.2.2.1 == r7.1.2.2.1) && true)))) then
            some false
          else
            bif (r6.2.1 != r7.2.1) then
              some false
            else
              bif (!((r8.1.1 == r9.1.1) && ((r8.1.2.1 == r9.1.2.1) && ((r8.1.2.2.1 == r9.1.2.2.1) && true)))) then
                some false
              else
                bif (r8.2.1 != r9.2.1) then
                  some false
                else
                  bif (!((r10.1.1 == r11.1.1) && ((r10.1.2.1 == r11.1.2.1) && ((r10.1.2.2.1 == r11.1.2.2.1) && true)))) then
                    some false
                  else
                    bif (r10.2.1 != r11.2.1) then
                      some false
                    else
                      (value_Div N a b).bind fun (r12 : T_Value × Int × Unit) =>
                      (r2_Do N 47 a b).bind fun (r13 : T_Value × Int × Unit) =>
                      (value_Neg N a).bind fun (r14 : T_Value × Int × Unit) =>
                      (r2_Neg N a).bind fun (r15 : T_Value × Int × Unit) =>
                      bif ((r12.1.1 == r13.1.1) && ((r12.1.2.1 == r13.1.2.1) && ((r12.1.2.2.1 == r13.1.2.2.1) && true))) then
                        bif (r12.2.1 == r13.2.1) then
                          bif ((r14.1.1 == r15.1.1) && ((r14.1.2.1 == r15.1.2.1) && ((r14.1.2.2.1 == r15.1.2.2.1) && true))) then
                            bif (r14.2.1 == r15.2.1) then
                              (w2_known N).bind fun (r16 : Bool) =>
                              some r16
                            else
                              some false
                          else
                            some false
                        else
                          some false
                      else
                        some false
noncomputable def w2_ValueDoes_C (N : Nat) (a : T_Value) (b : T_Value) : Option (RT [.bool]) := callBody DR Try.prog N (w2_ValueDoes_T N) w2_ValueDoes_H Try.f5 (bodyOf Try.f5) (RT [.bool]) (encA [t_Value, t_Value] (a, b, ())) [] (kPure [.bool])
theorem w2_ValueDoes_run (N : Nat) (a : T_Value) (b : T_Value) : w2_ValueDoes_C N a b = w2_ValueDoes N a b := by kernel_rfl
def w2_ValueDoes_entO (m : T_Value → T_Value → Option Bool) : Ent := specEnt [t_Value, t_Value] [.bool] fun (x : Els [t_Value, t_Value]) => m x.1 x.2.1
def w2_ValueDoes_ent (N : Nat) : Ent := w2_ValueDoes_entO (w2_ValueDoes N)
theorem w2_ValueDoes_sound (N : Nat) : EntSound Try.prog 5 (w2_ValueDoes_ent N) := specEnt_sound (w2_ValueDoes_Ts N) Try.func5 rfl (by kernel_rfl) fun (x : Els [t_Value, t_Value]) => w2_ValueDoes_run N x.1 x.2.1

end Go.Proofs.Ytgicljncknbgcaa.Abs
