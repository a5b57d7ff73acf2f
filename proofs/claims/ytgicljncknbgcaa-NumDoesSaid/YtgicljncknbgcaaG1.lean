/- The functions of the program, told on typed values, printed by a program: each tells what the reckoning of its body tells. -/
import Derived.Test.YtgicljncknbgcaaTN
import Derived.Test.YtgicljncknbgcaaProg
namespace Go.Proofs.Ytgicljncknbgcaa.Abs
set_option maxRecDepth 100000
open Go Go.Proofs
set_option linter.unusedVariables false
set_option linter.unusedSimpArgs false
def t_N1 : Ty := .st [.bool, (.list (.int .i64))]
abbrev T_N1 : Type := Bool × (List Int) × Unit
def d_N1 : T_N1 := (false, [], ())
def r1_Of_H0 : LH := ⟨[(0, .int .i64), (2, .asis), (3, .bool), (4, .own (.int .i64) 504 3 1)], [], [.cells [.bool, .lst (.int .i64)]]⟩
def r1_Of_H : FH := ⟨[r1_Of_H0], [], [], [], false⟩
noncomputable def r1_Of_T (N : Nat) : CallT := tab []
theorem r1_Of_Ts (N : Nat) : CallSound Try.prog (r1_Of_T N) := tab_nil _
noncomputable def r1_Of_sc : Sc := ⟨Try.prog, r1_Of_H.arrs, r1_Of_H.heads, r1_Of_H.frz, r1_Of_H.wrap⟩
noncomputable def r1_Of_cf (N : Nat) : Cfg := ⟨N, r1_Of_T N, 0⟩
noncomputable def r1_Of_fin (N : Nat) : Exit → List TV → List TOb → Option T_N1 := fin Try.prog 0 Try.f6.results.toList (kPure [t_N1])
def r1_Of_E1 (neg : Bool) (t2_Neg : Bool) (t2_D : List Int) (e : Int × List Int) : List TV := match e with
  | (n1, d) => [.int .i64 n1, .undef, .ref 0 0, .bool neg, .tl (.int .i64) d (.own 504 3 1), .undef, .undef, .undef, .undef, .undef, .undef, .undef, .undef, .undef, .undef, .undef, .undef, .undef, .undef, .undef, .undef, .undef, .undef, .undef, .undef]
def r1_Of_S1 (neg : Bool) (t2_Neg : Bool) (t2_D : List Int) (e : Int × List Int) : List TOb := match e with
  | (n1, d) => [.cells [.bool t2_Neg, .tl (.int .i64) t2_D .unk] 24 true]
noncomputable def r1_Of_R1 (N : Nat)  : (List TV → List TOb → Option T_N1) → List TV → List TOb → Option T_N1 := rawL DR r1_Of_sc (r1_Of_cf N) (lopB (blkB (seqL (seqR (seqR (seqR (bodyOf Try.f6))))))) r1_Of_H0 (r1_Of_H.loops.drop 1) (kBlk 0 (kSeq DR r1_Of_sc (r1_Of_cf N) (seqR (seqR (seqR (seqR (bodyOf Try.f6))))) (r1_Of_H.loops.drop 1) (r1_Of_fin N)))
def r1_Of_B1 (N : Nat) (neg : Bool) (t2_Neg : Bool) (t2_D : List Int)  (K0 : (Int × List Int) → Option T_N1) (e : Int × List Int) : Option T_N1 :=
  match e with
  | (n1, d) =>
    bif (n1 != 0) then
      bif decide ((Int.tmod n1 10000) < 0) then
        bif inI64 (0 - (Int.tmod n1 10000)) then
        bif fits (d.length + [0 - (Int.tmod n1 10000)].length) 17592186044416 then
        bif inI64 (Int.tdiv n1 10000) then
        K0 (Int.tdiv n1 10000, (d ++ [0 - (Int.tmod n1 10000)]))
        else none
        else none
        else none
      else
        bif fits (d.length + [Int.tmod n1 10000].length) 17592186044416 then
        bif inI64 (Int.tdiv n1 10000) then
        K0 (Int.tdiv n1 10000, (d ++ [Int.tmod n1 10000]))
        else none
        else none
    else
      some (neg, d, ())
theorem r1_Of_l1 (N : Nat) (neg : Bool) (t2_Neg : Bool) (t2_D : List Int)  (n : Nat) (e : Int × List Int) : iterF (r1_Of_R1 N ) n ((r1_Of_E1 neg t2_Neg t2_D) e) ((r1_Of_S1 neg t2_Neg t2_D) e) = iter (r1_Of_B1 N neg t2_Neg t2_D ) n e :=
  loop_iter (r1_Of_E1 neg t2_Neg t2_D) (r1_Of_S1 neg t2_Neg t2_D) (by intro K e; obtain ⟨n1, d⟩ := e; kernel_rfl) n e
def r1_Of_t (N : Nat) (n : Int) (l1 : Bool → Bool → (List Int) → (Int × List Int) → Option T_N1) : Option T_N1 :=
  l1 (decide (n < 0)) false [] (n, [])
def r1_Of (N : Nat) (n : Int) : Option T_N1 := r1_Of_t N n (fun (neg : Bool) (t2_Neg : Bool) (t2_D : List Int) (e : Int × List Int) => iter (r1_Of_B1 N neg t2_Neg t2_D) N e)
theorem r1_Of_run (N : Nat) (n : Int) : callBody DR Try.prog N (r1_Of_T N) r1_Of_H Try.f6 (bodyOf Try.f6) (RT [t_N1]) (encA [(.int .i64)] (n, ())) [] (kPure [t_N1]) = r1_Of N n := by
  have h : callBody DR Try.prog N (r1_Of_T N) r1_Of_H Try.f6 (bodyOf Try.f6) (RT [t_N1]) (encA [(.int .i64)] (n, ())) [] (kPure [t_N1]) = r1_Of_t N n (fun (neg : Bool) (t2_Neg : Bool) (t2_D : List Int) (e : Int × List Int) => iterF (r1_Of_R1 N ) N (r1_Of_E1 neg t2_Neg t2_D e) (r1_Of_S1 neg t2_Neg t2_D e)) := by kernel_rfl
  rw [h]
  simp only [r1_Of, r1_Of_l1] <;> rfl
def r1_Of_ent (N : Nat) : Ent := specEnt [(.int .i64)] [t_N1] fun x => r1_Of N x.1
theorem r1_Of_sound (N : Nat) : EntSound Try.prog 6 (r1_Of_ent N) := specEnt_sound (r1_Of_Ts N) Try.func6 rfl (by kernel_rfl) fun x => r1_Of_run N x.1
def num_Add_H : FH := ⟨[], [], [], [], true⟩
noncomputable def num_Add_T (N : Nat) : CallT := tab []
theorem num_Add_Ts (N : Nat) : CallSound Try.prog (num_Add_T N) := tab_nil _
noncomputable def num_Add_sc : Sc := ⟨Try.prog, num_Add_H.arrs, num_Add_H.heads, num_Add_H.frz, num_Add_H.wrap⟩
noncomputable def num_Add_cf (N : Nat) : Cfg := ⟨N, num_Add_T N, 0⟩
def num_Add (N : Nat) (a : Int) (b : Int) : Option (Int × Int × Unit) :=
  bif ((decide (a < 0)) == (decide (b < 0))) then
    bif (!((decide ((IntKind.i64.wrap (a + b)) < 0)) == (decide (a < 0)))) then
      some (0, 9, ())
    else
      some ((IntKind.i64.wrap (a + b)), 0, ())
  else
    some ((IntKind.i64.wrap (a + b)), 0, ())
theorem num_Add_run (N : Nat) (a : Int) (b : Int) : callBody DR Try.prog N (num_Add_T N) num_Add_H Try.f7 (bodyOf Try.f7) (RT [(.int .i64), (.int .i64)]) (encA [(.int .i64), (.int .i64)] (a, b, ())) [] (kPure [(.int .i64), (.int .i64)]) = num_Add N a b := by kernel_rfl
def num_Add_ent (N : Nat) : Ent := specEnt [(.int .i64), (.int .i64)] [(.int .i64), (.int .i64)] fun x => num_Add N x.1 x.2.1
theorem num_Add_sound (N : Nat) : EntSound Try.prog 7 (num_Add_ent N) := specEnt_sound (num_Add_Ts N) Try.func7 rfl (by kernel_rfl) fun x => num_Add_run N x.1 x.2.1
def num_Sub_H : FH := ⟨[], [], [], [], true⟩
noncomputable def num_Sub_T (N : Nat) : CallT := tab []
theorem num_Sub_Ts (N : Nat) : CallSound Try.prog (num_Sub_T N) := tab_nil _
noncomputable def num_Sub_sc : Sc := ⟨Try.prog, num_Sub_H.arrs, num_Sub_H.heads, num_Sub_H.frz, num_Sub_H.wrap⟩
noncomputable def num_Sub_cf (N : Nat) : Cfg := ⟨N, num_Sub_T N, 0⟩
def num_Sub (N : Nat) (a : Int) (b : Int) : Option (Int × Int × Unit) :=
  bif (!((decide (a < 0)) == (decide (b < 0)))) then
    bif (!((decide ((IntKind.i64.wrap (a - b)) < 0)) == (decide (a < 0)))) then
      some (0, 9, ())
    else
      some ((IntKind.i64.wrap (a - b)), 0, ())
  else
    some ((IntKind.i64.wrap (a - b)), 0, ())
theorem num_Sub_run (N : Nat) (a : Int) (b : Int) : callBody DR Try.prog N (num_Sub_T N) num_Sub_H Try.f8 (bodyOf Try.f8) (RT [(.int .i64), (.int .i64)]) (encA [(.int .i64), (.int .i64)] (a, b, ())) [] (kPure [(.int .i64), (.int .i64)]) = num_Sub N a b := by kernel_rfl
def num_Sub_ent (N : Nat) : Ent := specEnt [(.int .i64), (.int .i64)] [(.int .i64), (.int .i64)] fun x => num_Sub N x.1 x.2.1
theorem num_Sub_sound (N : Nat) : EntSound Try.prog 8 (num_Sub_ent N) := specEnt_sound (num_Sub_Ts N) Try.func8 rfl (by kernel_rfl) fun x => num_Sub_run N x.1 x.2.1
def num_size_H : FH := ⟨[], [], [], [], true⟩
noncomputable def num_size_T (N : Nat) : CallT := tab []
theorem num_size_Ts (N : Nat) : CallSound Try.prog (num_size_T N) := tab_nil _
noncomputable def num_size_sc : Sc := ⟨Try.prog, num_size_H.arrs, num_size_H.heads, num_size_H.frz, num_size_H.wrap⟩
noncomputable def num_size_cf (N : Nat) : Cfg := ⟨N, num_size_T N, 0⟩
def num_size (N : Nat) (n : Int) : Option Int :=
  bif decide (n < 0) then
    some (IntKind.u64.wrap (0 - (IntKind.u64.wrap n)))
  else
    some (IntKind.u64.wrap n)
theorem num_size_run (N : Nat) (n : Int) : callBody DR Try.prog N (num_size_T N) num_size_H Try.f41 (bodyOf Try.f41) (RT [(.int .u64)]) (encA [(.int .i64)] (n, ())) [] (kPure [(.int .u64)]) = num_size N n := by kernel_rfl
def num_size_ent (N : Nat) : Ent := specEnt [(.int .i64)] [(.int .u64)] fun x => num_size N x.1
theorem num_size_sound (N : Nat) : EntSound Try.prog 41 (num_size_ent N) := specEnt_sound (num_size_Ts N) Try.func41 rfl (by kernel_rfl) fun x => num_size_run N x.1
def bits_Mul64_H : FH := ⟨[], [], [], [], false⟩
noncomputable def bits_Mul64_T (N : Nat) : CallT := tab []
theorem bits_Mul64_Ts (N : Nat) : CallSound Try.prog (bits_Mul64_T N) := tab_nil _
noncomputable def bits_Mul64_sc : Sc := ⟨Try.prog, bits_Mul64_H.arrs, bits_Mul64_H.heads, bits_Mul64_H.frz, bits_Mul64_H.wrap⟩
noncomputable def bits_Mul64_cf (N : Nat) : Cfg := ⟨N, bits_Mul64_T N, 0⟩
def bits_Mul64 (N : Nat) (x : Int) (y : Int) : Option (Int × Int × Unit) :=
  some ((IntKind.u64.wrap ((IntKind.u64.wrap ((IntKind.u64.wrap ((iShr .u64 x (32 : Int)) * (iShr .u64 y (32 : Int)))) + (iShr .u64 (IntKind.u64.wrap ((IntKind.u64.wrap ((iShr .u64 x (32 : Int)) * (iBits .and .u64 y 4294967295))) + (iShr .u64 (IntKind.u64.wrap ((iBits .and .u64 x 4294967295) * (iBits .and .u64 y 4294967295))) (32 : Int)))) (32 : Int)))) + (iShr .u64 (IntKind.u64.wrap ((iBits .and .u64 (IntKind.u64.wrap ((IntKind.u64.wrap ((iShr .u64 x (32 : Int)) * (iBits .and .u64 y 4294967295))) + (iShr .u64 (IntKind.u64.wrap ((iBits .and .u64 x 4294967295) * (iBits .and .u64 y 4294967295))) (32 : Int)))) 4294967295) + (IntKind.u64.wrap ((iBits .and .u64 x 4294967295) * (iShr .u64 y (32 : Int)))))) (32 : Int)))), (IntKind.u64.wrap (x * y)), ())
theorem bits_Mul64_run (N : Nat) (x : Int) (y : Int) : callBody DR Try.prog N (bits_Mul64_T N) bits_Mul64_H Try.f40 (bodyOf Try.f40) (RT [(.int .u64), (.int .u64)]) (encA [(.int .u64), (.int .u64)] (x, y, ())) [] (kPure [(.int .u64), (.int .u64)]) = bits_Mul64 N x y := by kernel_rfl
def bits_Mul64_ent (N : Nat) : Ent := specEnt [(.int .u64), (.int .u64)] [(.int .u64), (.int .u64)] fun x => bits_Mul64 N x.1 x.2.1
theorem bits_Mul64_sound (N : Nat) : EntSound Try.prog 40 (bits_Mul64_ent N) := specEnt_sound (bits_Mul64_Ts N) Try.func40 rfl (by kernel_rfl) fun x => bits_Mul64_run N x.1 x.2.1
def num_signed_H : FH := ⟨[], [], [], [], true⟩
noncomputable def num_signed_T (N : Nat) : CallT := tab []
theorem num_signed_Ts (N : Nat) : CallSound Try.prog (num_signed_T N) := tab_nil _
noncomputable def num_signed_sc : Sc := ⟨Try.prog, num_signed_H.arrs, num_signed_H.heads, num_signed_H.frz, num_signed_H.wrap⟩
noncomputable def num_signed_cf (N : Nat) : Cfg := ⟨N, num_signed_T N, 0⟩
def num_signed (N : Nat) (neg : Bool) (hi : Int) (lo : Int) : Option (Int × Int × Unit) :=
  bif decide (hi > 0) then
    some (0, 9, ())
  else
    bif decide (lo > 9223372036854775808) then
      some (0, 9, ())
    else
      bif (lo == 9223372036854775808) then
        bif (!neg) then
          some (0, 9, ())
        else
          bif neg then
            some ((IntKind.i64.wrap (0 - (IntKind.i64.wrap lo))), 0, ())
          else
            some ((IntKind.i64.wrap lo), 0, ())
      else
        bif neg then
          some ((IntKind.i64.wrap (0 - (IntKind.i64.wrap lo))), 0, ())
        else
          some ((IntKind.i64.wrap lo), 0, ())
theorem num_signed_run (N : Nat) (neg : Bool) (hi : Int) (lo : Int) : callBody DR Try.prog N (num_signed_T N) num_signed_H Try.f42 (bodyOf Try.f42) (RT [(.int .i64), (.int .i64)]) (encA [.bool, (.int .u64), (.int .u64)] (neg, hi, lo, ())) [] (kPure [(.int .i64), (.int .i64)]) = num_signed N neg hi lo := by kernel_rfl
def num_signed_ent (N : Nat) : Ent := specEnt [.bool, (.int .u64), (.int .u64)] [(.int .i64), (.int .i64)] fun x => num_signed N x.1 x.2.1 x.2.2.1
theorem num_signed_sound (N : Nat) : EntSound Try.prog 42 (num_signed_ent N) := specEnt_sound (num_signed_Ts N) Try.func42 rfl (by kernel_rfl) fun x => num_signed_run N x.1 x.2.1 x.2.2.1
def num_Mul_H : FH := ⟨[], [], [], [], false⟩
noncomputable def num_Mul_T (N : Nat) : CallT := tab [(41, num_size_ent N), (40, bits_Mul64_ent N), (42, num_signed_ent N)]
theorem num_Mul_Ts (N : Nat) : CallSound Try.prog (num_Mul_T N) := tab_cons (num_size_sound N) <| tab_cons (bits_Mul64_sound N) <| tab_cons (num_signed_sound N) <| tab_nil _
noncomputable def num_Mul_sc : Sc := ⟨Try.prog, num_Mul_H.arrs, num_Mul_H.heads, num_Mul_H.frz, num_Mul_H.wrap⟩
noncomputable def num_Mul_cf (N : Nat) : Cfg := ⟨N, num_Mul_T N, 0⟩
def num_Mul (N : Nat) (a : Int) (b : Int) : Option (Int × Int × Unit) :=
  (num_size N a).bind fun (r : Int) =>
  (num_size N b).bind fun (r1 : Int) =>
  (bits_Mul64 N r r1).bind fun (r2 : Int × Int × Unit) =>
  (num_signed N (!((decide (a < 0)) == (decide (b < 0)))) r2.1 r2.2.1).bind fun (r3 : Int × Int × Unit) =>
  some r3
theorem num_Mul_run (N : Nat) (a : Int) (b : Int) : callBody DR Try.prog N (num_Mul_T N) num_Mul_H Try.f9 (bodyOf Try.f9) (RT [(.int .i64), (.int .i64)]) (encA [(.int .i64), (.int .i64)] (a, b, ())) [] (kPure [(.int .i64), (.int .i64)]) = num_Mul N a b := by kernel_rfl
def num_Mul_ent (N : Nat) : Ent := specEnt [(.int .i64), (.int .i64)] [(.int .i64), (.int .i64)] fun x => num_Mul N x.1 x.2.1
theorem num_Mul_sound (N : Nat) : EntSound Try.prog 9 (num_Mul_ent N) := specEnt_sound (num_Mul_Ts N) Try.func9 rfl (by kernel_rfl) fun x => num_Mul_run N x.1 x.2.1
def num_Scale_H : FH := ⟨[], [], [], [], false⟩
noncomputable def num_Scale_T (N : Nat) : CallT := tab [(9, num_Mul_ent N)]
theorem num_Scale_Ts (N : Nat) : CallSound Try.prog (num_Scale_T N) := tab_cons (num_Mul_sound N) <| tab_nil _
noncomputable def num_Scale_sc : Sc := ⟨Try.prog, num_Scale_H.arrs, num_Scale_H.heads, num_Scale_H.frz, num_Scale_H.wrap⟩
noncomputable def num_Scale_cf (N : Nat) : Cfg := ⟨N, num_Scale_T N, 0⟩
def num_Scale (N : Nat) (a : Int) : Option (Int × Int × Unit) :=
  (num_Mul N a 10000).bind fun (r : Int × Int × Unit) =>
  some r
theorem num_Scale_run (N : Nat) (a : Int) : callBody DR Try.prog N (num_Scale_T N) num_Scale_H Try.f10 (bodyOf Try.f10) (RT [(.int .i64), (.int .i64)]) (encA [(.int .i64)] (a, ())) [] (kPure [(.int .i64), (.int .i64)]) = num_Scale N a := by kernel_rfl
def num_Scale_ent (N : Nat) : Ent := specEnt [(.int .i64)] [(.int .i64), (.int .i64)] fun x => num_Scale N x.1
theorem num_Scale_sound (N : Nat) : EntSound Try.prog 10 (num_Scale_ent N) := specEnt_sound (num_Scale_Ts N) Try.func10 rfl (by kernel_rfl) fun x => num_Scale_run N x.1
def num_over_1_H : FH := ⟨[], [], [], [], false⟩
noncomputable def num_over_1_T (N : Nat) : CallT := tab [(42, num_signed_ent N)]
theorem num_over_1_Ts (N : Nat) : CallSound Try.prog (num_over_1_T N) := tab_cons (num_signed_sound N) <| tab_nil _
noncomputable def num_over_1_ent (N : Nat) : Ent := inlEnt Try.prog N (num_over_1_T N) num_over_1_H Try.f67 (bodyOf Try.f67)
theorem num_over_1_sound (N : Nat) : EntSound Try.prog 67 (num_over_1_ent N) := inlEnt_sound (num_over_1_Ts N) Try.func67 rfl (by kernel_rfl)
def lit_tab_0 : List UInt8 := 0 :: 1 :: 2 :: 2 :: 3 :: 3 :: 3 :: 3 :: 4 :: 4 :: 4 :: 4 :: 4 :: 4 :: 4 :: 4 :: 5 :: 5 :: 5 :: 5 :: 5 :: 5 :: 5 :: 5 :: 5 :: 5 :: 5 :: 5 :: 5 :: 5 :: 5 :: 5 :: 6 :: 6 :: 6 :: 6 :: 6 :: 6 :: 6 :: 6 :: 6 :: 6 :: 6 :: 6 :: 6 :: 6 :: 6 :: 6 :: 6 :: 6 :: 6 :: 6 :: 6 :: 6 :: 6 :: 6 :: 6 :: 6 :: 6 :: 6 :: 6 :: 6 :: 6 :: 6 :: 7 :: 7 :: 7 :: 7 :: 7 :: 7 :: 7 :: 7 :: 7 :: 7 :: 7 :: 7 :: 7 :: 7 :: 7 :: 7 :: 7 :: 7 :: 7 :: 7 :: 7 :: 7 :: 7 :: 7 :: 7 :: 7 :: 7 :: 7 :: 7 :: 7 :: 7 :: 7 :: 7 :: 7 :: 7 :: 7 :: 7 :: 7 :: 7 :: 7 :: 7 :: 7 :: 7 :: 7 :: 7 :: 7 :: 7 :: 7 :: 7 :: 7 :: 7 :: 7 :: 7 :: 7 :: 7 :: 7 :: 7 :: 7 :: 7 :: 7 :: 7 :: 7 :: 7 :: 7 :: 8 :: 8 :: 8 :: 8 :: 8 :: 8 :: 8 :: 8 :: 8 :: 8 :: 8 :: 8 :: 8 :: 8 :: 8 :: 8 :: 8 :: 8 :: 8 :: 8 :: 8 :: 8 :: 8 :: 8 :: 8 :: 8 :: 8 :: 8 :: 8 :: 8 :: 8 :: 8 :: 8 :: 8 :: 8 :: 8 :: 8 :: 8 :: 8 :: 8 :: 8 :: 8 :: 8 :: 8 :: 8 :: 8 :: 8 :: 8 :: 8 :: 8 :: 8 :: 8 :: 8 :: 8 :: 8 :: 8 :: 8 :: 8 :: 8 :: 8 :: 8 :: 8 :: 8 :: 8 :: 8 :: 8 :: 8 :: 8 :: 8 :: 8 :: 8 :: 8 :: 8 :: 8 :: 8 :: 8 :: 8 :: 8 :: 8 :: 8 :: 8 :: 8 :: 8 :: 8 :: 8 :: 8 :: 8 :: 8 :: 8 :: 8 :: 8 :: 8 :: 8 :: 8 :: 8 :: 8 :: 8 :: 8 :: 8 :: 8 :: 8 :: 8 :: 8 :: 8 :: 8 :: 8 :: 8 :: 8 :: 8 :: 8 :: 8 :: 8 :: 8 :: 8 :: 8 :: 8 :: 8 :: 8 :: 8 :: 8 :: 8 :: 8 :: 8 :: 8 :: 8 :: 8 :: 8 :: 8 :: []
def bits_Len64_H : FH := ⟨[], [], [], [], false⟩
noncomputable def bits_Len64_T (N : Nat) : CallT := tab []
theorem bits_Len64_Ts (N : Nat) : CallSound Try.prog (bits_Len64_T N) := tab_nil _
noncomputable def bits_Len64_sc : Sc := ⟨Try.prog, bits_Len64_H.arrs, bits_Len64_H.heads, bits_Len64_H.frz, bits_Len64_H.wrap⟩
noncomputable def bits_Len64_cf (N : Nat) : Cfg := ⟨N, bits_Len64_T N, 0⟩
def bits_Len64 (N : Nat) (x : Int) : Option Int :=
  bif decide (x ≥ 4294967296) then
    bif decide ((iShr .u64 x (32 : Int)) ≥ 65536) then
      bif decide ((iShr .u64 (iShr .u64 x (32 : Int)) (16 : Int)) ≥ 256) then
        bif inR (IntKind.u8.wrap (iShr .u64 (iShr .u64 (iShr .u64 x (32 : Int)) (16 : Int)) (8 : Int))) lit_tab_0.length then
        bif inI64 (byteAt lit_tab_0 (IntKind.u8.wrap (iShr .u64 (iShr .u64 (iShr .u64 x (32 : Int)) (16 : Int)) (8 : Int)))) then
        bif inI64 (56 + (byteAt lit_tab_0 (IntKind.u8.wrap (iShr .u64 (iShr .u64 (iShr .u64 x (32 : Int)) (16 : Int)) (8 : Int))))) then
        some (56 + (byteAt lit_tab_0 (IntKind.u8.wrap (iShr .u64 (iShr .u64 (iShr .u64 x (32 : Int)) (16 : Int)) (8 : Int)))))
        else none
        else none
        else none
      else
        bif inR (IntKind.u8.wrap (iShr .u64 (iShr .u64 x (32 : Int)) (16 : Int))) lit_tab_0.length then
        bif inI64 (byteAt lit_tab_0 (IntKind.u8.wrap (iShr .u64 (iShr .u64 x (32 : Int)) (16 : Int)))) then
        bif inI64 (48 + (byteAt lit_tab_0 (IntKind.u8.wrap (iShr .u64 (iShr .u64 x (32 : Int)) (16 : Int))))) then
        some (48 + (byteAt lit_tab_0 (IntKind.u8.wrap (iShr .u64 (iShr .u64 x (32 : Int)) (16 : Int)))))
        else none
        else none
        else none
    else
      bif decide ((iShr .u64 x (32 : Int)) ≥ 256) then
        bif inR (IntKind.u8.wrap (iShr .u64 (iShr .u64 x (32 : Int)) (8 : Int))) lit_tab_0.length then
        bif inI64 (byteAt lit_tab_0 (IntKind.u8.wrap (iShr .u64 (iShr .u64 x (32 : Int)) (8 : Int)))) then
        bif inI64 (40 + (byteAt lit_tab_0 (IntKind.u8.wrap (iShr .u64 (iShr .u64 x (32 : Int)) (8 : Int))))) then
        some (40 + (byteAt lit_tab_0 (IntKind.u8.wrap (iShr .u64 (iShr .u64 x (32 : Int)) (8 : Int)))))
        else none
        else none
        else none
      else
        bif inR (IntKind.u8.wrap (iShr .u64 x (32 : Int))) lit_tab_0.length then
        bif inI64 (byteAt lit_tab_0 (IntKind.u8.wrap (iShr .u64 x (32 : Int)))) then
        bif inI64 (32 + (byteAt lit_tab_0 (IntKind.u8.wrap (iShr .u64 x (32 : Int))))) then
        some (32 + (byteAt lit_tab_0 (IntKind.u8.wrap (iShr .u64 x (32 : Int)))))
        else none
        else none
        else none
  else
    bif decide (x ≥ 65536) then
      bif decide ((iShr .u64 x (16 : Int)) ≥ 256) then
        bif inR (IntKind.u8.wrap (iShr .u64 (iShr .u64 x (16 : Int)) (8 : Int))) lit_tab_0.length then
        bif inI64 (byteAt lit_tab_0 (IntKind.u8.wrap (iShr .u64 (iShr .u64 x (16 : Int)) (8 : Int)))) then
        bif inI64 (24 + (byteAt lit_tab_0 (IntKind.u8.wrap (iShr .u64 (iShr .u64 x (16 : Int)) (8 : Int))))) then
        some (24 + (byteAt lit_tab_0 (IntKind.u8.wrap (iShr .u64 (iShr .u64 x (16 : Int)) (8 : Int)))))
        else none
        else none
        else none
      else
        bif inR (IntKind.u8.wrap (iShr .u64 x (16 : Int))) lit_tab_0.length then
        bif inI64 (byteAt lit_tab_0 (IntKind.u8.wrap (iShr .u64 x (16 : Int)))) then
        bif inI64 (16 + (byteAt lit_tab_0 (IntKind.u8.wrap (iShr .u64 x (16 : Int))))) then
        some (16 + (byteAt lit_tab_0 (IntKind.u8.wrap (iShr .u64 x (16 : Int)))))
        else none
        else none
        else none
    else
      bif decide (x ≥ 256) then
        bif inR (IntKind.u8.wrap (iShr .u64 x (8 : Int))) lit_tab_0.length then
        bif inI64 (byteAt lit_tab_0 (IntKind.u8.wrap (iShr .u64 x (8 : Int)))) then
        bif inI64 (8 + (byteAt lit_tab_0 (IntKind.u8.wrap (iShr .u64 x (8 : Int))))) then
        some (8 + (byteAt lit_tab_0 (IntKind.u8.wrap (iShr .u64 x (8 : Int)))))
        else none
        else none
        else none
      else
        bif inR (IntKind.u8.wrap x) lit_tab_0.length then
        bif inI64 (byteAt lit_tab_0 (IntKind.u8.wrap x)) then
        bif inI64 (0 + (byteAt lit_tab_0 (IntKind.u8.wrap x))) then
        some (0 + (byteAt lit_tab_0 (IntKind.u8.wrap x)))
        else none
        else none
        else none
theorem bits_Len64_run (N : Nat) (x : Int) : callBody DR Try.prog N (bits_Len64_T N) bits_Len64_H Try.f81 (bodyOf Try.f81) (RT [(.int .i64)]) (encA [(.int .u64)] (x, ())) [] (kPure [(.int .i64)]) = bits_Len64 N x := by kernel_rfl
def bits_Len64_ent (N : Nat) : Ent := specEnt [(.int .u64)] [(.int .i64)] fun x => bits_Len64 N x.1
theorem bits_Len64_sound (N : Nat) : EntSound Try.prog 81 (bits_Len64_ent N) := specEnt_sound (bits_Len64_Ts N) Try.func81 rfl (by kernel_rfl) fun x => bits_Len64_run N x.1
def bits_LeadingZeros64_H : FH := ⟨[], [], [], [], false⟩
noncomputable def bits_LeadingZeros64_T (N : Nat) : CallT := tab [(81, bits_Len64_ent N)]
theorem bits_LeadingZeros64_Ts (N : Nat) : CallSound Try.prog (bits_LeadingZeros64_T N) := tab_cons (bits_Len64_sound N) <| tab_nil _
noncomputable def bits_LeadingZeros64_sc : Sc := ⟨Try.prog, bits_LeadingZeros64_H.arrs, bits_LeadingZeros64_H.heads, bits_LeadingZeros64_H.frz, bits_LeadingZeros64_H.wrap⟩
noncomputable def bits_LeadingZeros64_cf (N : Nat) : Cfg := ⟨N, bits_LeadingZeros64_T N, 0⟩
def bits_LeadingZeros64 (N : Nat) (x : Int) : Option Int :=
  (bits_Len64 N x).bind fun (r : Int) =>
  bif inI64 (64 - r) then
  some (64 - r)
  else none
theorem bits_LeadingZeros64_run (N : Nat) (x : Int) : callBody DR Try.prog N (bits_LeadingZeros64_T N) bits_LeadingZeros64_H Try.f78 (bodyOf Try.f78) (RT [(.int .i64)]) (encA [(.int .u64)] (x, ())) [] (kPure [(.int .i64)]) = bits_LeadingZeros64 N x := by kernel_rfl
def bits_LeadingZeros64_ent (N : Nat) : Ent := specEnt [(.int .u64)] [(.int .i64)] fun x => bits_LeadingZeros64 N x.1
theorem bits_LeadingZeros64_sound (N : Nat) : EntSound Try.prog 78 (bits_LeadingZeros64_ent N) := specEnt_sound (bits_LeadingZeros64_Ts N) Try.func78 rfl (by kernel_rfl) fun x => bits_LeadingZeros64_run N x.1
def bits_Div64_H0 : LH := ⟨[(2, .int .u64), (8, .int .u64), (9, .int .u64), (10, .int .u64), (11, .int .u64), (13, .int .u64), (14, .int .u64), (15, .int .u64), (16, .int .u64)], [], []⟩
def bits_Div64_H1 : LH := ⟨[(2, .int .u64), (8, .int .u64), (9, .int .u64), (10, .int .u64), (14, .int .u64), (15, .int .u64), (16, .int .u64), (17, .int .u64), (18, .int .u64)], [], []⟩
def bits_Div64_H : FH := ⟨[bits_Div64_H0, bits_Div64_H1], [], [(6, ⟨7, 135, 0, []⟩)], [], false⟩
noncomputable def bits_Div64_T (N : Nat) : CallT := tab [(78, bits_LeadingZeros64_ent N)]
theorem bits_Div64_Ts (N : Nat) : CallSound Try.prog (bits_Div64_T N) := tab_cons (bits_LeadingZeros64_sound N) <| tab_nil _
noncomputable def bits_Div64_sc : Sc := ⟨Try.prog, bits_Div64_H.arrs, bits_Div64_H.heads, bits_Div64_H.frz, bits_Div64_H.wrap⟩
noncomputable def bits_Div64_cf (N : Nat) : Cfg := ⟨N, bits_Div64_T N, 0⟩
noncomputable def bits_Div64_fin (N : Nat) : Exit → List TV → List TOb → Option (Int × Int × Unit) := fin Try.prog 0 Try.f68.results.toList (kPure [(.int .u64), (.int .u64)])
def bits_Div64_E1 (y1 : Int) (s : Int) (yn1 : Int) (yn0 : Int) (un32 : Int) (un1 : Int) (un0 : Int) (e : Int × Int) : List TV := match e with
  | (q1, rhat) => [.undef, .undef, .int .u64 y1, .undef, .undef, .undef, .undef, .undef, .int .u64 s, .int .u64 yn1, .int .u64 yn0, .int .u64 un32, .undef, .int .u64 un1, .int .u64 un0, .int .u64 q1, .int .u64 rhat, .undef, .undef, .undef, .undef, .undef, .undef, .undef, .undef, .undef, .undef, .undef, .undef, .undef, .undef, .undef, .undef, .undef, .undef, .undef, .undef, .undef, .undef, .undef, .undef, .undef, .undef, .undef, .undef, .undef, .undef, .undef, .undef, .undef, .undef, .undef, .undef, .undef, .undef, .undef, .undef, .undef, .undef, .undef, .undef, .undef, .undef, .undef, .undef, .undef, .undef, .undef, .undef, .undef, .undef, .undef, .undef, .undef, .undef, .undef, .undef, .undef, .undef, .undef, .undef, .undef, .undef, .undef, .undef, .undef, .undef, .undef, .undef, .undef, .undef, .undef, .undef, .undef, .undef, .undef, .undef, .undef, .undef, .undef, .undef, .undef, .undef, .undef, .undef, .undef, .undef, .undef, .undef, .undef, .undef, .undef, .undef, .undef, .undef, .undef, .undef, .undef, .undef, .undef, .undef, .undef, .undef, .undef, .undef, .undef, .undef, .undef, .undef, .undef, .undef, .undef, .undef, .undef, .undef]
def bits_Div64_S1 (y1 : Int) (s : Int) (yn1 : Int) (yn0 : Int) (un32 : Int) (un1 : Int) (un0 : Int) (e : Int × Int) : List TOb := match e with
  | (q1, rhat) => []
def bits_Div64_E2 (y1 : Int) (s : Int) (yn1 : Int) (yn0 : Int) (un0 : Int) (q11 : Int) (un21 : Int) (e : Int × Int) : List TV := match e with
  | (rhat1, q0) => [.undef, .undef, .int .u64 y1, .undef, .undef, .undef, .undef, .undef, .int .u64 s, .int .u64 yn1, .int .u64 yn0, .undef, .undef, .undef, .int .u64 un0, .int .u64 q11, .int .u64 rhat1, .int .u64 un21, .int .u64 q0, .undef, .undef, .undef, .undef, .undef, .undef, .undef, .undef, .undef, .undef, .undef, .undef, .undef, .undef, .undef, .undef, .undef, .undef, .undef, .undef, .undef, .undef, .undef, .undef, .undef, .undef, .undef, .undef, .undef, .undef, .undef, .undef, .undef, .undef, .undef, .undef, .undef, .undef, .undef, .undef, .undef, .undef, .undef, .undef, .undef, .undef, .undef, .undef, .undef, .undef, .undef, .undef, .undef, .undef, .undef, .undef, .undef, .undef, .undef, .undef, .undef, .undef, .undef, .undef, .undef, .undef, .undef, .undef, .undef, .undef, .undef, .undef, .undef, .undef, .undef, .undef, .undef, .undef, .undef, .undef, .undef, .undef, .undef, .undef, .undef, .undef, .undef, .undef, .undef, .undef, .undef, .undef, .undef, .undef, .undef, .undef, .undef, .undef, .undef, .undef, .undef, .undef, .undef, .undef, .undef, .undef, .undef, .undef, .undef, .undef, .undef, .undef, .undef, .undef, .undef, .undef]
def bits_Div64_S2 (y1 : Int) (s : Int) (yn1 : Int) (yn0 : Int) (un0 : Int) (q11 : Int) (un21 : Int) (e : Int × Int) : List TOb := match e with
  | (rhat1, q0) => []
def bits_Div64_E3 (y1 : Int) (s : Int) (yn1 : Int) (yn0 : Int) (un0 : Int) (q12 : Int) (un211 : Int) (e : Int × Int) : List TV := match e with
  | (rhat2, q01) => [.undef, .undef, .int .u64 y1, .undef, .undef, .undef, .undef, .undef, .int .u64 s, .int .u64 yn1, .int .u64 yn0, .undef, .undef, .undef, .int .u64 un0, .int .u64 q12, .int .u64 rhat2, .int .u64 un211, .int .u64 q01, .undef, .undef, .undef, .undef, .undef, .undef, .undef, .undef, .undef, .undef, .undef, .undef, .undef, .undef, .undef, .undef, .undef, .undef, .undef, .undef, .undef, .undef, .undef, .undef, .undef, .undef, .undef, .undef, .undef, .undef, .undef, .undef, .undef, .undef, .undef, .undef, .undef, .undef, .undef, .undef, .undef, .undef, .undef, .undef, .undef, .undef, .undef, .undef, .undef, .undef, .undef, .undef, .undef, .undef, .undef, .undef, .undef, .undef, .undef, .undef, .undef, .undef, .undef, .undef, .undef, .undef, .undef, .undef, .undef, .undef, .undef, .undef, .undef, .undef, .undef, .undef, .undef, .undef, .undef, .undef, .undef, .undef, .undef, .undef, .undef, .undef, .undef, .undef, .undef, .undef, .undef, .undef, .undef, .undef, .undef, .undef, .undef, .undef, .undef, .undef, .undef, .undef, .undef, .undef, .undef, .undef, .undef, .undef, .undef, .undef, .undef, .undef, .undef, .undef, .undef, .undef]
def bits_Div64_S3 (y1 : Int) (s : Int) (yn1 : Int) (yn0 : Int) (un0 : Int) (q12 : Int) (un211 : Int) (e : Int × Int) : List TOb := match e with
  | (rhat2, q01) => []
def bits_Div64_E4 (y1 : Int) (s : Int) (yn1 : Int) (yn0 : Int) (un0 : Int) (q1 : Int) (un212 : Int) (e : Int × Int) : List TV := match e with
  | (rhat3, q02) => [.undef, .undef, .int .u64 y1, .undef, .undef, .undef, .undef, .undef, .int .u64 s, .int .u64 yn1, .int .u64 yn0, .undef, .undef, .undef, .int .u64 un0, .int .u64 q1, .int .u64 rhat3, .int .u64 un212, .int .u64 q02, .undef, .undef, .undef, .undef, .undef, .undef, .undef, .undef, .undef, .undef, .undef, .undef, .undef, .undef, .undef, .undef, .undef, .undef, .undef, .undef, .undef, .undef, .undef, .undef, .undef, .undef, .undef, .undef, .undef, .undef, .undef, .undef, .undef, .undef, .undef, .undef, .undef, .undef, .undef, .undef, .undef, .undef, .undef, .undef, .undef, .undef, .undef, .undef, .undef, .undef, .undef, .undef, .undef, .undef, .undef, .undef, .undef, .undef, .undef, .undef, .undef, .undef, .undef, .undef, .undef, .undef, .undef, .undef, .undef, .undef, .undef, .undef, .undef, .undef, .undef, .undef, .undef, .undef, .undef, .undef, .undef, .undef, .undef, .undef, .undef, .undef, .undef, .undef, .undef, .undef, .undef, .undef, .undef, .undef, .undef, .undef, .undef, .undef, .undef, .undef, .undef, .undef, .undef, .undef, .undef, .undef, .undef, .undef, .undef, .undef, .undef, .undef, .undef, .undef, .undef, .undef]
def bits_Div64_S4 (y1 : Int) (s : Int) (yn1 : Int) (yn0 : Int) (un0 : Int) (q1 : Int) (un212 : Int) (e : Int × Int) : List TOb := match e with
  | (rhat3, q02) => []
noncomputable def bits_Div64_R4 (N : Nat)  : (List TV → List TOb → Option (Int × Int × Unit)) → List TV → List TOb → Option (Int × Int × Unit) := rawL DR bits_Div64_sc (bits_Div64_cf N) (lopB (blkB (seqL (seqR (seqR (seqR (seqR (seqR (seqR (seqR (seqR (seqR (seqR (seqR (seqR (seqR (seqR (seqR (seqR (seqR (seqR (bodyOf Try.f68)))))))))))))))))))))) bits_Div64_H1 (bits_Div64_H.loops.drop 2) (kBlk 2 (kSeq DR bits_Div64_sc (bits_Div64_cf N) (seqR (seqR (seqR (seqR (seqR (seqR (seqR (seqR (seqR (seqR (seqR (seqR (seqR (seqR (seqR (seqR (seqR (seqR (seqR (bodyOf Try.f68)))))))))))))))))))) (bits_Div64_H.loops.drop 2) (bits_Div64_fin N)))
def bits_Div64_B4 (N : Nat) (y1 : Int) (s : Int) (yn1 : Int) (yn0 : Int) (un0 : Int) (q1 : Int) (un212 : Int)  (K1 : (Int × Int) → Option (Int × Int × Unit)) (e : Int × Int) : Option (Int × Int × Unit) :=
  match e with
  | (rhat3, q02) =>
    bif decide (q02 ≥ 4294967296) then
      bif decide ((IntKind.u64.wrap (rhat3 + yn1)) ≥ 4294967296) then
        bif !(decide (s < 0)) then
        some ((IntKind.u64.wrap ((IntKind.u64.wrap (q1 * 4294967296)) + (IntKind.u64.wrap (q02 - 1)))), (iShr .u64 (IntKind.u64.wrap ((IntKind.u64.wrap ((IntKind.u64.wrap (un212 * 4294967296)) + un0)) - (IntKind.u64.wrap ((IntKind.u64.wrap (q02 - 1)) * y1)))) s), ())
        else none
      else
        K1 ((IntKind.u64.wrap (rhat3 + yn1)), (IntKind.u64.wrap (q02 - 1)))
    else
      bif decide ((IntKind.u64.wrap (q02 * yn0)) > (IntKind.u64.wrap ((IntKind.u64.wrap (4294967296 * rhat3)) + un0))) then
        bif decide ((IntKind.u64.wrap (rhat3 + yn1)) ≥ 4294967296) then
          bif !(decide (s < 0)) then
          some ((IntKind.u64.wrap ((IntKind.u64.wrap (q1 * 4294967296)) + (IntKind.u64.wrap (q02 - 1)))), (iShr .u64 (IntKind.u64.wrap ((IntKind.u64.wrap ((IntKind.u64.wrap (un212 * 4294967296)) + un0)) - (IntKind.u64.wrap ((IntKind.u64.wrap (q02 - 1)) * y1)))) s), ())
          else none
        else
          K1 ((IntKind.u64.wrap (rhat3 + yn1)), (IntKind.u64.wrap (q02 - 1)))
      else
        bif !(decide (s < 0)) then
        some ((IntKind.u64.wrap ((IntKind.u64.wrap (q1 * 4294967296)) + q02)), (iShr .u64 (IntKind.u64.wrap ((IntKind.u64.wrap ((IntKind.u64.wrap (un212 * 4294967296)) + un0)) - (IntKind.u64.wrap (q02 * y1)))) s), ())
        else none
theorem bits_Div64_l4 (N : Nat) (y1 : Int) (s : Int) (yn1 : Int) (yn0 : Int) (un0 : Int) (q1 : Int) (un212 : Int)  (n : Nat) (e : Int × Int) : iterF (bits_Div64_R4 N ) n ((bits_Div64_E4 y1 s yn1 yn0 un0 q1 un212) e) ((bits_Div64_S4 y1 s yn1 yn0 un0 q1 un212) e) = iter (bits_Div64_B4 N y1 s yn1 yn0 un0 q1 un212 ) n e :=
  loop_iter (bits_Div64_E4 y1 s yn1 yn0 un0 q1 un212) (bits_Div64_S4 y1 s yn1 yn0 un0 q1 un212) (by intro K e; obtain ⟨rhat3, q02⟩ := e; kernel_rfl) n e
noncomputable def bits_Div64_R3 (N : Nat)  : (List TV → List TOb → Option (Int × Int × Unit)) → List TV → List TOb → Option (Int × Int × Unit) := rawL DR bits_Div64_sc (bits_Div64_cf N) (lopB (blkB (seqL (seqR (seqR (seqR (seqR (seqR (seqR (seqR (seqR (seqR (seqR (seqR (seqR (seqR (seqR (seqR (seqR (seqR (seqR (bodyOf Try.f68)))))))))))))))))))))) bits_Div64_H1 (bits_Div64_H.loops.drop 2) (kBlk 2 (kSeq DR bits_Div64_sc (bits_Div64_cf N) (seqR (seqR (seqR (seqR (seqR (seqR (seqR (seqR (seqR (seqR (seqR (seqR (seqR (seqR (seqR (seqR (seqR (seqR (seqR (bodyOf Try.f68)))))))))))))))))))) (bits_Div64_H.loops.drop 2) (bits_Div64_fin N)))
def bits_Div64_B3 (N : Nat) (y1 : Int) (s : Int) (yn1 : Int) (yn0 : Int) (un0 : Int) (q12 : Int) (un211 : Int)  (K1 : (Int × Int) → Option (Int × Int × Unit)) (e : Int × Int) : Option (Int × Int × Unit) :=
  match e with
  | (rhat2, q01) =>
    bif decide (q01 ≥ 4294967296) then
      bif decide ((IntKind.u64.wrap (rhat2 + yn1)) ≥ 4294967296) then
        bif !(decide (s < 0)) then
        some ((IntKind.u64.wrap ((IntKind.u64.wrap (q12 * 4294967296)) + (IntKind.u64.wrap (q01 - 1)))), (iShr .u64 (IntKind.u64.wrap ((IntKind.u64.wrap ((IntKind.u64.wrap (un211 * 4294967296)) + un0)) - (IntKind.u64.wrap ((IntKind.u64.wrap (q01 - 1)) * y1)))) s), ())
        else none
      else
        K1 ((IntKind.u64.wrap (rhat2 + yn1)), (IntKind.u64.wrap (q01 - 1)))
    else
      bif decide ((IntKind.u64.wrap (q01 * yn0)) > (IntKind.u64.wrap ((IntKind.u64.wrap (4294967296 * rhat2)) + un0))) then
        bif decide ((IntKind.u64.wrap (rhat2 + yn1)) ≥ 4294967296) then
          bif !(decide (s < 0)) then
          some ((IntKind.u64.wrap ((IntKind.u64.wrap (q12 * 4294967296)) + (IntKind.u64.wrap (q01 - 1)))), (iShr .u64 (IntKind.u64.wrap ((IntKind.u64.wrap ((IntKind.u64.wrap (un211 * 4294967296)) + un0)) - (IntKind.u64.wrap ((IntKind.u64.wrap (q01 - 1)) * y1)))) s), ())
          else none
        else
          K1 ((IntKind.u64.wrap (rhat2 + yn1)), (IntKind.u64.wrap (q01 - 1)))
      else
        bif !(decide (s < 0)) then
        some ((IntKind.u64.wrap ((IntKind.u64.wrap (q12 * 4294967296)) + q01)), (iShr .u64 (IntKind.u64.wrap ((IntKind.u64.wrap ((IntKind.u64.wrap (un211 * 4294967296)) + un0)) - (IntKind.u64.wrap (q01 * y1)))) s), ())
        else none
theorem bits_Div64_l3 (N : Nat) (y1 : Int) (s : Int) (yn1 : Int) (yn0 : Int) (un0 : Int) (q12 : Int) (un211 : Int)  (n : Nat) (e : Int × Int) : iterF (bits_Div64_R3 N ) n ((bits_Div64_E3 y1 s yn1 yn0 un0 q12 un211) e) ((bits_Div64_S3 y1 s yn1 yn0 un0 q12 un211) e) = iter (bits_Div64_B3 N y1 s yn1 yn0 un0 q12 un211 ) n e :=
  loop_iter (bits_Div64_E3 y1 s yn1 yn0 un0 q12 un211) (bits_Div64_S3 y1 s yn1 yn0 un0 q12 un211) (by intro K e; obtain ⟨rhat2, q01⟩ := e; kernel_rfl) n e
noncomputable def bits_Div64_R2 (N : Nat)  : (List TV → List TOb → Option (Int × Int × Unit)) → List TV → List TOb → Option (Int × Int × Unit) := rawL DR bits_Div64_sc (bits_Div64_cf N) (lopB (blkB (seqL (seqR (seqR (seqR (seqR (seqR (seqR (seqR (seqR (seqR (seqR (seqR (seqR (seqR (seqR (seqR (seqR (seqR (seqR (bodyOf Try.f68)))))))))))))))))))))) bits_Div64_H1 (bits_Div64_H.loops.drop 2) (kBlk 2 (kSeq DR bits_Div64_sc (bits_Div64_cf N) (seqR (seqR (seqR (seqR (seqR (seqR (seqR (seqR (seqR (seqR (seqR (seqR (seqR (seqR (seqR (seqR (seqR (seqR (seqR (bodyOf Try.f68)))))))))))))))))))) (bits_Div64_H.loops.drop 2) (bits_Div64_fin N)))
def bits_Div64_B2 (N : Nat) (y1 : Int) (s : Int) (yn1 : Int) (yn0 : Int) (un0 : Int) (q11 : Int) (un21 : Int)  (K1 : (Int × Int) → Option (Int × Int × Unit)) (e : Int × Int) : Option (Int × Int × Unit) :=
  match e with
  | (rhat1, q0) =>
    bif decide (q0 ≥ 4294967296) then
      bif decide ((IntKind.u64.wrap (rhat1 + yn1)) ≥ 4294967296) then
        bif !(decide (s < 0)) then
        some ((IntKind.u64.wrap ((IntKind.u64.wrap (q11 * 4294967296)) + (IntKind.u64.wrap (q0 - 1)))), (iShr .u64 (IntKind.u64.wrap ((IntKind.u64.wrap ((IntKind.u64.wrap (un21 * 4294967296)) + un0)) - (IntKind.u64.wrap ((IntKind.u64.wrap (q0 - 1)) * y1)))) s), ())
        else none
      else
        K1 ((IntKind.u64.wrap (rhat1 + yn1)), (IntKind.u64.wrap (q0 - 1)))
    else
      bif decide ((IntKind.u64.wrap (q0 * yn0)) > (IntKind.u64.wrap ((IntKind.u64.wrap (4294967296 * rhat1)) + un0))) then
        bif decide ((IntKind.u64.wrap (rhat1 + yn1)) ≥ 4294967296) then
          bif !(decide (s < 0)) then
          some ((IntKind.u64.wrap ((IntKind.u64.wrap (q11 * 4294967296)) + (IntKind.u64.wrap (q0 - 1)))), (iShr .u64 (IntKind.u64.wrap ((IntKind.u64.wrap ((IntKind.u64.wrap (un21 * 4294967296)) + un0)) - (IntKind.u64.wrap ((IntKind.u64.wrap (q0 - 1)) * y1)))) s), ())
          else none
        else
          K1 ((IntKind.u64.wrap (rhat1 + yn1)), (IntKind.u64.wrap (q0 - 1)))
      else
        bif !(decide (s < 0)) then
        some ((IntKind.u64.wrap ((IntKind.u64.wrap (q11 * 4294967296)) + q0)), (iShr .u64 (IntKind.u64.wrap ((IntKind.u64.wrap ((IntKind.u64.wrap (un21 * 4294967296)) + un0)) - (IntKind.u64.wrap (q0 * y1)))) s), ())
        else none
theorem bits_Div64_l2 (N : Nat) (y1 : Int) (s : Int) (yn1 : Int) (yn0 : Int) (un0 : Int) (q11 : Int) (un21 : Int)  (n : Nat) (e : Int × Int) : iterF (bits_Div64_R2 N ) n ((bits_Div64_E2 y1 s yn1 yn0 un0 q11 un21) e) ((bits_Div64_S2 y1 s yn1 yn0 un0 q11 un21) e) = iter (bits_Div64_B2 N y1 s yn1 yn0 un0 q11 un21 ) n e :=
  loop_iter (bits_Div64_E2 y1 s yn1 yn0 un0 q11 un21) (bits_Div64_S2 y1 s yn1 yn0 un0 q11 un21) (by intro K e; obtain ⟨rhat1, q0⟩ := e; kernel_rfl) n e
noncomputable def bits_Div64_R1 (N : Nat)  : (List TV → List TOb → Option (Int × Int × Unit)) → List TV → List TOb → Option (Int × Int × Unit) := rawL DR bits_Div64_sc (bits_Div64_cf N) (lopB (blkB (seqL (seqR (seqR (seqR (seqR (seqR (seqR (seqR (seqR (seqR (seqR (seqR (seqR (seqR (seqR (bodyOf Try.f68)))))))))))))))))) bits_Div64_H0 (bits_Div64_H.loops.drop 1) (kBlk 0 (kSeq DR bits_Div64_sc (bits_Div64_cf N) (seqR (seqR (seqR (seqR (seqR (seqR (seqR (seqR (seqR (seqR (seqR (seqR (seqR (seqR (seqR (bodyOf Try.f68)))))))))))))))) (bits_Div64_H.loops.drop 1) (bits_Div64_fin N)))
def bits_Div64_B1t (N : Nat) (y1 : Int) (s : Int) (yn1 : Int) (yn0 : Int) (un32 : Int) (un1 : Int) (un0 : Int)  (l2 : Int → Int → Int → Int → Int → Int → Int → (Int × Int) → Option (Int × Int × Unit)) (l3 : Int → Int → Int → Int → Int → Int → Int → (Int × Int) → Option (Int × Int × Unit)) (l4 : Int → Int → Int → Int → Int → Int → Int → (Int × Int) → Option (Int × Int × Unit)) (K0 : (Int × Int) → Option (Int × Int × Unit)) (e : Int × Int) : Option (Int × Int × Unit) :=
  match e with
  | (q1, rhat) =>
    bif decide (q1 ≥ 4294967296) then
      bif decide ((IntKind.u64.wrap (rhat + yn1)) ≥ 4294967296) then
        bif (decide (yn1 ≠ 0) && true) then
        l2 y1 s yn1 yn0 un0 (IntKind.u64.wrap (q1 - 1)) (IntKind.u64.wrap ((IntKind.u64.wrap ((IntKind.u64.wrap (un32 * 4294967296)) + un1)) - (IntKind.u64.wrap ((IntKind.u64.wrap (q1 - 1)) * y1)))) ((IntKind.u64.wrap ((IntKind.u64.wrap ((IntKind.u64.wrap ((IntKind.u64.wrap (un32 * 4294967296)) + un1)) - (IntKind.u64.wrap ((IntKind.u64.wrap (q1 - 1)) * y1)))) - (IntKind.u64.wrap ((IntKind.u64.wrap (Int.tdiv (IntKind.u64.wrap ((IntKind.u64.wrap ((IntKind.u64.wrap (un32 * 4294967296)) + un1)) - (IntKind.u64.wrap ((IntKind.u64.wrap (q1 - 1)) * y1)))) yn1)) * yn1)))), (IntKind.u64.wrap (Int.tdiv (IntKind.u64.wrap ((IntKind.u64.wrap ((IntKind.u64.wrap (un32 * 4294967296)) + un1)) - (IntKind.u64.wrap ((IntKind.u64.wrap (q1 - 1)) * y1)))) yn1)))
        else none
      else
        K0 ((IntKind.u64.wrap (q1 - 1)), (IntKind.u64.wrap (rhat + yn1)))
    else
      bif decide ((IntKind.u64.wrap (q1 * yn0)) > (IntKind.u64.wrap ((IntKind.u64.wrap (4294967296 * rhat)) + un1))) then
        bif decide ((IntKind.u64.wrap (rhat + yn1)) ≥ 4294967296) then
          bif (decide (yn1 ≠ 0) && true) then
          l3 y1 s yn1 yn0 un0 (IntKind.u64.wrap (q1 - 1)) (IntKind.u64.wrap ((IntKind.u64.wrap ((IntKind.u64.wrap (un32 * 4294967296)) + un1)) - (IntKind.u64.wrap ((IntKind.u64.wrap (q1 - 1)) * y1)))) ((IntKind.u64.wrap ((IntKind.u64.wrap ((IntKind.u64.wrap ((IntKind.u64.wrap (un32 * 4294967296)) + un1)) - (IntKind.u64.wrap ((IntKind.u64.wrap (q1 - 1)) * y1)))) - (IntKind.u64.wrap ((IntKind.u64.wrap (Int.tdiv (IntKind.u64.wrap ((IntKind.u64.wrap ((IntKind.u64.wrap (un32 * 4294967296)) + un1)) - (IntKind.u64.wrap ((IntKind.u64.wrap (q1 - 1)) * y1)))) yn1)) * yn1)))), (IntKind.u64.wrap (Int.tdiv (IntKind.u64.wrap ((IntKind.u64.wrap ((IntKind.u64.wrap (un32 * 4294967296)) + un1)) - (IntKind.u64.wrap ((IntKind.u64.wrap (q1 - 1)) * y1)))) yn1)))
          else none
        else
          K0 ((IntKind.u64.wrap (q1 - 1)), (IntKind.u64.wrap (rhat + yn1)))
      else
        bif (decide (yn1 ≠ 0) && true) then
        l4 y1 s yn1 yn0 un0 q1 (IntKind.u64.wrap ((IntKind.u64.wrap ((IntKind.u64.wrap (un32 * 4294967296)) + un1)) - (IntKind.u64.wrap (q1 * y1)))) ((IntKind.u64.wrap ((IntKind.u64.wrap ((IntKind.u64.wrap ((IntKind.u64.wrap (un32 * 4294967296)) + un1)) - (IntKind.u64.wrap (q1 * y1)))) - (IntKind.u64.wrap ((IntKind.u64.wrap (Int.tdiv (IntKind.u64.wrap ((IntKind.u64.wrap ((IntKind.u64.wrap (un32 * 4294967296)) + un1)) - (IntKind.u64.wrap (q1 * y1)))) yn1)) * yn1)))), (IntKind.u64.wrap (Int.tdiv (IntKind.u64.wrap ((IntKind.u64.wrap ((IntKind.u64.wrap (un32 * 4294967296)) + un1)) - (IntKind.u64.wrap (q1 * y1)))) yn1)))
        else none
def bits_Div64_B1 (N : Nat) (y1 : Int) (s : Int) (yn1 : Int) (yn0 : Int) (un32 : Int) (un1 : Int) (un0 : Int)  (K0 : (Int × Int) → Option (Int × Int × Unit)) (e : Int × Int) : Option (Int × Int × Unit) := bits_Div64_B1t N y1 s yn1 yn0 un32 un1 un0  (fun (y1 : Int) (s : Int) (yn1 : Int) (yn0 : Int) (un0 : Int) (q11 : Int) (un21 : Int) (e : Int × Int) => iter (bits_Div64_B2 N y1 s yn1 yn0 un0 q11 un21) N e) (fun (y1 : Int) (s : Int) (yn1 : Int) (yn0 : Int) (un0 : Int) (q12 : Int) (un211 : Int) (e : Int × Int) => iter (bits_Div64_B3 N y1 s yn1 yn0 un0 q12 un211) N e) (fun (y1 : Int) (s : Int) (yn1 : Int) (yn0 : Int) (un0 : Int) (q1 : Int) (un212 : Int) (e : Int × Int) => iter (bits_Div64_B4 N y1 s yn1 yn0 un0 q1 un212) N e) K0 e
theorem bits_Div64_l1 (N : Nat) (y1 : Int) (s : Int) (yn1 : Int) (yn0 : Int) (un32 : Int) (un1 : Int) (un0 : Int)  (n : Nat) (e : Int × Int) : iterF (bits_Div64_R1 N ) n ((bits_Div64_E1 y1 s yn1 yn0 un32 un1 un0) e) ((bits_Div64_S1 y1 s yn1 yn0 un32 un1 un0) e) = iter (bits_Div64_B1 N y1 s yn1 yn0 un32 un1 un0 ) n e :=
  loop_iter (bits_Div64_E1 y1 s yn1 yn0 un32 un1 un0) (bits_Div64_S1 y1 s yn1 yn0 un32 un1 un0) (by
    intro K e
    have h : (bits_Div64_R1 N ) K ((bits_Div64_E1 y1 s yn1 yn0 un32 un1 un0) e) ((bits_Div64_S1 y1 s yn1 yn0 un32 un1 un0) e) = bits_Div64_B1t N y1 s yn1 yn0 un32 un1 un0  (fun (y1 : Int) (s : Int) (yn1 : Int) (yn0 : Int) (un0 : Int) (q11 : Int) (un21 : Int) (e : Int × Int) => iterF (bits_Div64_R2 N ) N (bits_Div64_E2 y1 s yn1 yn0 un0 q11 un21 e) (bits_Div64_S2 y1 s yn1 yn0 un0 q11 un21 e)) (fun (y1 : Int) (s : Int) (yn1 : Int) (yn0 : Int) (un0 : Int) (q12 : Int) (un211 : Int) (e : Int × Int) => iterF (bits_Div64_R3 N ) N (bits_Div64_E3 y1 s yn1 yn0 un0 q12 un211 e) (bits_Div64_S3 y1 s yn1 yn0 un0 q12 un211 e)) (fun (y1 : Int) (s : Int) (yn1 : Int) (yn0 : Int) (un0 : Int) (q1 : Int) (un212 : Int) (e : Int × Int) => iterF (bits_Div64_R4 N ) N (bits_Div64_E4 y1 s yn1 yn0 un0 q1 un212 e) (bits_Div64_S4 y1 s yn1 yn0 un0 q1 un212 e)) (fun e => K ((bits_Div64_E1 y1 s yn1 yn0 un32 un1 un0) e) ((bits_Div64_S1 y1 s yn1 yn0 un32 un1 un0) e)) e := by obtain ⟨q1, rhat⟩ := e; kernel_rfl
    rw [h]
    simp only [bits_Div64_B1, bits_Div64_l2, bits_Div64_l3, bits_Div64_l4] <;> rfl) n e
def bits_Div64_t (N : Nat) (hi : Int) (lo : Int) (y : Int) (l1 : Int → Int → Int → Int → Int → Int → Int → (Int × Int) → Option (Int × Int × Unit)) : Option (Int × Int × Unit) :=
  bif (y == 0) then none else
  bif decide (y ≤ hi) then none else
  bif (hi == 0) then
    bif (decide (y ≠ 0) && true) then
    bif decide (y ≠ 0) then
    some ((IntKind.u64.wrap (Int.tdiv lo y)), Int.tmod lo y, ())
    else none
    else none
  else
    (bits_LeadingZeros64 N y).bind fun (r : Int) =>
    bif !(decide ((IntKind.u64.wrap r) < 0)) then
    bif !(decide ((IntKind.u64.wrap r) < 0)) then
    bif !(decide ((IntKind.u64.wrap (64 - (IntKind.u64.wrap r))) < 0)) then
    bif !(decide ((IntKind.u64.wrap r) < 0)) then
    bif (decide ((iShr .u64 (iShl .u64 y (IntKind.u64.wrap r)) (32 : Int)) ≠ 0) && true) then
    l1 (iShl .u64 y (IntKind.u64.wrap r)) (IntKind.u64.wrap r) (iShr .u64 (iShl .u64 y (IntKind.u64.wrap r)) (32 : Int)) (iBits .and .u64 (iShl .u64 y (IntKind.u64.wrap r)) 4294967295) (iBits .or .u64 (iShl .u64 hi (IntKind.u64.wrap r)) (iShr .u64 lo (IntKind.u64.wrap (64 - (IntKind.u64.wrap r))))) (iShr .u64 (iShl .u64 lo (IntKind.u64.wrap r)) (32 : Int)) (iBits .and .u64 (iShl .u64 lo (IntKind.u64.wrap r)) 4294967295) ((IntKind.u64.wrap (Int.tdiv (iBits .or .u64 (iShl .u64 hi (IntKind.u64.wrap r)) (iShr .u64 lo (IntKind.u64.wrap (64 - (IntKind.u64.wrap r))))) (iShr .u64 (iShl .u64 y (IntKind.u64.wrap r)) (32 : Int)))), (IntKind.u64.wrap ((iBits .or .u64 (iShl .u64 hi (IntKind.u64.wrap r)) (iShr .u64 lo (IntKind.u64.wrap (64 - (IntKind.u64.wrap r))))) - (IntKind.u64.wrap ((IntKind.u64.wrap (Int.tdiv (iBits .or .u64 (iShl .u64 hi (IntKind.u64.wrap r)) (iShr .u64 lo (IntKind.u64.wrap (64 - (IntKind.u64.wrap r))))) (iShr .u64 (iShl .u64 y (IntKind.u64.wrap r)) (32 : Int)))) * (iShr .u64 (iShl .u64 y (IntKind.u64.wrap r)) (32 : Int)))))))
    else none
    else none
    else none
    else none
    else none
def bits_Div64 (N : Nat) (hi : Int) (lo : Int) (y : Int) : Option (Int × Int × Unit) := bits_Div64_t N hi lo y (fun (y1 : Int) (s : Int) (yn1 : Int) (yn0 : Int) (un32 : Int) (un1 : Int) (un0 : Int) (e : Int × Int) => iter (bits_Div64_B1 N y1 s yn1 yn0 un32 un1 un0) N e)
theorem bits_Div64_run (N : Nat) (hi : Int) (lo : Int) (y : Int) : callBody DR Try.prog N (bits_Div64_T N) bits_Div64_H Try.f68 (bodyOf Try.f68) (RT [(.int .u64), (.int .u64)]) (encA [(.int .u64), (.int .u64), (.int .u64)] (hi, lo, y, ())) [] (kPure [(.int .u64), (.int .u64)]) = bits_Div64 N hi lo y := by
  have h : callBody DR Try.prog N (bits_Div64_T N) bits_Div64_H Try.f68 (bodyOf Try.f68) (RT [(.int .u64), (.int .u64)]) (encA [(.int .u64), (.int .u64), (.int .u64)] (hi, lo, y, ())) [] (kPure [(.int .u64), (.int .u64)]) = bits_Div64_t N hi lo y (fun (y1 : Int) (s : Int) (yn1 : Int) (yn0 : Int) (un32 : Int) (un1 : Int) (un0 : Int) (e : Int × Int) => iterF (bits_Div64_R1 N ) N (bits_Div64_E1 y1 s yn1 yn0 un32 un1 un0 e) (bits_Div64_S1 y1 s yn1 yn0 un32 un1 un0 e)) := by kernel_rfl
  rw [h]
  simp only [bits_Div64, bits_Div64_l1] <;> rfl
def bits_Div64_ent (N : Nat) : Ent := specEnt [(.int .u64), (.int .u64), (.int .u64)] [(.int .u64), (.int .u64)] fun x => bits_Div64 N x.1 x.2.1 x.2.2.1
theorem bits_Div64_sound (N : Nat) : EntSound Try.prog 68 (bits_Div64_ent N) := specEnt_sound (bits_Div64_Ts N) Try.func68 rfl (by kernel_rfl) fun x => bits_Div64_run N x.1 x.2.1 x.2.2.1
def num_over_H : FH := ⟨[], [], [(1, ⟨9, 61, 0, []⟩)], [], false⟩
noncomputable def num_over_T (N : Nat) : CallT := tab [(41, num_size_ent N), (40, bits_Mul64_ent N), (68, bits_Div64_ent N), (67, num_over_1_ent N), (42, num_signed_ent N)]
theorem num_over_Ts (N : Nat) : CallSound Try.prog (num_over_T N) := tab_cons (num_size_sound N) <| tab_cons (bits_Mul64_sound N) <| tab_cons (bits_Div64_sound N) <| tab_cons (num_over_1_sound N) <| tab_cons (num_signed_sound N) <| tab_nil _
noncomputable def num_over_sc : Sc := ⟨Try.prog, num_over_H.arrs, num_over_H.heads, num_over_H.frz, num_over_H.wrap⟩
noncomputable def num_over_cf (N : Nat) : Cfg := ⟨N, num_over_T N, 0⟩
def num_over (N : Nat) (a : Int) (b : Int) (d : Int) : Option (Int × Int × Unit) :=
  (num_size N a).bind fun (r : Int) =>
  (num_size N b).bind fun (r1 : Int) =>
  (bits_Mul64 N r r1).bind fun (r2 : Int × Int × Unit) =>
  (num_size N d).bind fun (r3 : Int) =>
  bif decide (r2.1 ≥ r3) then
    some (0, 9, ())
  else
    (bits_Div64 N r2.1 r2.2.1 r3).bind fun (r4 : Int × Int × Unit) =>
    bif decide (r4.2.1 > (IntKind.u64.wrap (r3 - r4.2.1))) then
      bif ((IntKind.u64.wrap (r4.1 + 1)) == 0) then
        some (0, 9, ())
      else
        (num_signed N (!((!((decide (a < 0)) == (decide (b < 0)))) == (decide (d < 0)))) 0 (IntKind.u64.wrap (r4.1 + 1))).bind fun (r5 : Int × Int × Unit) =>
        some r5
    else
      bif (r4.2.1 == (IntKind.u64.wrap (r3 - r4.2.1))) then
        bif ((iBits .and .u64 r4.1 1) == 1) then
          bif ((IntKind.u64.wrap (r4.1 + 1)) == 0) then
            some (0, 9, ())
          else
            (num_signed N (!((!((decide (a < 0)) == (decide (b < 0)))) == (decide (d < 0)))) 0 (IntKind.u64.wrap (r4.1 + 1))).bind fun (r6 : Int × Int × Unit) =>
            some r6
        else
          (num_signed N (!((!((decide (a < 0)) == (decide (b < 0)))) == (decide (d < 0)))) 0 r4.1).bind fun (r7 : Int × Int × Unit) =>
          some r7
      else
        (num_signed N (!((!((decide (a < 0)) == (decide (b < 0)))) == (decide (d < 0)))) 0 r4.1).bind fun (r8 : Int × Int × Unit) =>
        some r8
theorem num_over_run (N : Nat) (a : Int) (b : Int) (d : Int) : callBody DR Try.prog N (num_over_T N) num_over_H Try.f43 (bodyOf Try.f43) (RT [(.int .i64), (.int .i64)]) (encA [(.int .i64), (.int .i64), (.int .i64)] (a, b, d, ())) [] (kPure [(.int .i64), (.int .i64)]) = num_over N a b d := by kernel_rfl
def num_over_ent (N : Nat) : Ent := specEnt [(.int .i64), (.int .i64), (.int .i64)] [(.int .i64), (.int .i64)] fun x => num_over N x.1 x.2.1 x.2.2.1
theorem num_over_sound (N : Nat) : EntSound Try.prog 43 (num_over_ent N) := specEnt_sound (num_over_Ts N) Try.func43 rfl (by kernel_rfl) fun x => num_over_run N x.1 x.2.1 x.2.2.1
def num_MulDec_H : FH := ⟨[], [], [], [], false⟩
noncomputable def num_MulDec_T (N : Nat) : CallT := tab [(43, num_over_ent N)]
theorem num_MulDec_Ts (N : Nat) : CallSound Try.prog (num_MulDec_T N) := tab_cons (num_over_sound N) <| tab_nil _
noncomputable def num_MulDec_sc : Sc := ⟨Try.prog, num_MulDec_H.arrs, num_MulDec_H.heads, num_MulDec_H.frz, num_MulDec_H.wrap⟩
noncomputable def num_MulDec_cf (N : Nat) : Cfg := ⟨N, num_MulDec_T N, 0⟩
def num_MulDec (N : Nat) (a : Int) (b : Int) : Option (Int × Int × Unit) :=
  (num_over N a b 10000).bind fun (r : Int × Int × Unit) =>
  some r
theorem num_MulDec_run (N : Nat) (a : Int) (b : Int) : callBody DR Try.prog N (num_MulDec_T N) num_MulDec_H Try.f11 (bodyOf Try.f11) (RT [(.int .i64), (.int .i64)]) (encA [(.int .i64), (.int .i64)] (a, b, ())) [] (kPure [(.int .i64), (.int .i64)]) = num_MulDec N a b := by kernel_rfl
def num_MulDec_ent (N : Nat) : Ent := specEnt [(.int .i64), (.int .i64)] [(.int .i64), (.int .i64)] fun x => num_MulDec N x.1 x.2.1
theorem num_MulDec_sound (N : Nat) : EntSound Try.prog 11 (num_MulDec_ent N) := specEnt_sound (num_MulDec_Ts N) Try.func11 rfl (by kernel_rfl) fun x => num_MulDec_run N x.1 x.2.1
def r1_up_H0 : LH := ⟨[(0, .lst (.int .i64)), (1, .lst (.int .i64)), (5, .own (.int .i64) 505 3 1), (6, .int .i64), (7, .int .i64)], [], []⟩
def r1_up_H : FH := ⟨[r1_up_H0], [], [], [], false⟩
noncomputable def r1_up_T (N : Nat) : CallT := tab []
theorem r1_up_Ts (N : Nat) : CallSound Try.prog (r1_up_T N) := tab_nil _
noncomputable def r1_up_sc : Sc := ⟨Try.prog, r1_up_H.arrs, r1_up_H.heads, r1_up_H.frz, r1_up_H.wrap⟩
noncomputable def r1_up_cf (N : Nat) : Cfg := ⟨N, r1_up_T N, 0⟩
noncomputable def r1_up_fin (N : Nat) : Exit → List TV → List TOb → Option (List Int) := fin Try.prog 0 Try.f46.results.toList (kPure [(.list (.int .i64))])
def r1_up_E1 (a : List Int) (b : List Int) (e : List Int × Int × Int) : List TV := match e with
  | (out, more, i) => [.tl (.int .i64) a .unk, .tl (.int .i64) b .unk, .undef, .undef, .undef, .tl (.int .i64) out (.own 505 3 1), .int .i64 more, .int .i64 i, .undef, .undef, .undef, .undef, .undef, .undef, .undef, .undef, .undef, .undef, .undef, .undef, .undef, .undef, .undef, .undef, .undef, .undef, .undef, .undef, .undef, .undef, .undef, .undef, .undef, .undef, .undef, .undef, .undef, .undef, .undef, .undef, .undef, .undef, .undef, .undef, .undef, .undef, .undef, .undef, .undef, .undef, .undef, .undef]
def r1_up_S1 (a : List Int) (b : List Int) (e : List Int × Int × Int) : List TOb := match e with
  | (out, more, i) => []
noncomputable def r1_up_R1 (N : Nat)  : (List TV → List TOb → Option (List Int)) → List TV → List TOb → Option (List Int) := rawL DR r1_up_sc (r1_up_cf N) (lopB (blkB (seqR (seqL (seqR (seqR (seqR (bodyOf Try.f46)))))))) r1_up_H0 (r1_up_H.loops.drop 1) (kBlk 0 (kSeq DR r1_up_sc (r1_up_cf N) (seqR (seqR (seqR (seqR (bodyOf Try.f46))))) (r1_up_H.loops.drop 1) (r1_up_fin N)))
def r1_up_B1 (N : Nat) (a : List Int) (b : List Int)  (K0 : (List Int × Int × Int) → Option (List Int)) (e : List Int × Int × Int) : Option (List Int) :=
  match e with
  | (out, more, i) =>
    bif decide (i < (a.length : Int)) then
      bif decide (i < (a.length : Int)) then
        bif inR i a.length then
        bif inI64 (more + (nthD a i 0)) then
        bif decide (i < (b.length : Int)) then
          bif inR i b.length then
          bif inI64 ((more + (nthD a i 0)) + (nthD b i 0)) then
          bif fits (out.length + [Int.tmod ((more + (nthD a i 0)) + (nthD b i 0)) 10000].length) 17592186044416 then
          bif inI64 (Int.tdiv ((more + (nthD a i 0)) + (nthD b i 0)) 10000) then
          bif inI64 (i + 1) then
          K0 ((out ++ [Int.tmod ((more + (nthD a i 0)) + (nthD b i 0)) 10000]), Int.tdiv ((more + (nthD a i 0)) + (nthD b i 0)) 10000, i + 1)
          else none
          else none
          else none
          else none
          else none
        else
          bif fits (out.length + [Int.tmod (more + (nthD a i 0)) 10000].length) 17592186044416 then
          bif inI64 (Int.tdiv (more + (nthD a i 0)) 10000) then
          bif inI64 (i + 1) then
          K0 ((out ++ [Int.tmod (more + (nthD a i 0)) 10000]), Int.tdiv (more + (nthD a i 0)) 10000, i + 1)
          else none
          else none
          else none
        else none
        else none
      else
        bif decide (i < (b.length : Int)) then
          bif inR i b.length then
          bif inI64 (more + (nthD b i 0)) then
          bif fits (out.length + [Int.tmod (more + (nthD b i 0)) 10000].length) 17592186044416 then
          bif inI64 (Int.tdiv (more + (nthD b i 0)) 10000) then
          bif inI64 (i + 1) then
          K0 ((out ++ [Int.tmod (more + (nthD b i 0)) 10000]), Int.tdiv (more + (nthD b i 0)) 10000, i + 1)
          else none
          else none
          else none
          else none
          else none
        else
          bif fits (out.length + [Int.tmod more 10000].length) 17592186044416 then
          bif inI64 (Int.tdiv more 10000) then
          bif inI64 (i + 1) then
          K0 ((out ++ [Int.tmod more 10000]), Int.tdiv more 10000, i + 1)
          else none
          else none
          else none
    else
      bif decide (i < (b.length : Int)) then
        bif decide (i < (a.length : Int)) then
          bif inR i a.length then
          bif inI64 (more + (nthD a i 0)) then
          bif decide (i < (b.length : Int)) then
            bif inR i b.length then
            bif inI64 ((more + (nthD a i 0)) + (nthD b i 0)) then
            bif fits (out.length + [Int.tmod ((more + (nthD a i 0)) + (nthD b i 0)) 10000].length) 17592186044416 then
            bif inI64 (Int.tdiv ((more + (nthD a i 0)) + (nthD b i 0)) 10000) then
            bif inI64 (i + 1) then
            K0 ((out ++ [Int.tmod ((more + (nthD a i 0)) + (nthD b i 0)) 10000]), Int.tdiv ((more + (nthD a i 0)) + (nthD b i 0)) 10000, i + 1)
            else none
            else none
            else none
            else none
            else none
          else
            bif fits (out.length + [Int.tmod (more + (nthD a i 0)) 10000].length) 17592186044416 then
            bif inI64 (Int.tdiv (more + (nthD a i 0)) 10000) then
            bif inI64 (i + 1) then
            K0 ((out ++ [Int.tmod (more + (nthD a i 0)) 10000]), Int.tdiv (more + (nthD a i 0)) 10000, i + 1)
            else none
            else none
            else none
          else none
          else none
        else
          bif decide (i < (b.length : Int)) then
            bif inR i b.length then
            bif inI64 (more + (nthD b i 0)) then
            bif fits (out.length + [Int.tmod (more + (nthD b i 0)) 10000].length) 17592186044416 then
            bif inI64 (Int.tdiv (more + (nthD b i 0)) 10000) then
            bif inI64 (i + 1) then
            K0 ((out ++ [Int.tmod (more + (nthD b i 0)) 10000]), Int.tdiv (more + (nthD b i 0)) 10000, i + 1)
            else none
            else none
            else none
            else none
            else none
          else
            bif fits (out.length + [Int.tmod more 10000].length) 17592186044416 then
            bif inI64 (Int.tdiv more 10000) then
            bif inI64 (i + 1) then
            K0 ((out ++ [Int.tmod more 10000]), Int.tdiv more 10000, i + 1)
            else none
            else none
            else none
      else
        bif decide (more > 0) then
          bif decide (i < (a.length : Int)) then
            bif inR i a.length then
            bif inI64 (more + (nthD a i 0)) then
            bif decide (i < (b.length : Int)) then
              bif inR i b.length then
              bif inI64 ((more + (nthD a i 0)) + (nthD b i 0)) then
              bif fits (out.length + [Int.tmod ((more + (nthD a i 0)) + (nthD b i 0)) 10000].length) 17592186044416 then
              bif inI64 (Int.tdiv ((more + (nthD a i 0)) + (nthD b i 0)) 10000) then
              bif inI64 (i + 1) then
              K0 ((out ++ [Int.tmod ((more + (nthD a i 0)) + (nthD b i 0)) 10000]), Int.tdiv ((more + (nthD a i 0)) + (nthD b i 0)) 10000, i + 1)
              else none
              else none
              else none
              else none
              else none
            else
              bif fits (out.length + [Int.tmod (more + (nthD a i 0)) 10000].length) 17592186044416 then
              bif inI64 (Int.tdiv (more + (nthD a i 0)) 10000) then
              bif inI64 (i + 1) then
              K0 ((out ++ [Int.tmod (more + (nthD a i 0)) 10000]), Int.tdiv (more + (nthD a i 0)) 10000, i + 1)
              else none
              else none
              else none
            else none
            else none
          else
            bif decide (i < (b.length : Int)) then
              bif inR i b.length then
              bif inI64 (more + (nthD b i 0)) then
              bif fits (out.length + [Int.tmod (more + (nthD b i 0)) 10000].length) 17592186044416 then
              bif inI64 (Int.tdiv (more + (nthD b i 0)) 10000) then
              bif inI64 (i + 1) then
              K0 ((out ++ [Int.tmod (more + (nthD b i 0)) 10000]), Int.tdiv (more + (nthD b i 0)) 10000, i + 1)
              else none
              else none
              else none
              else none
              else none
            else
              bif fits (out.length + [Int.tmod more 10000].length) 17592186044416 then
              bif inI64 (Int.tdiv more 10000) then
              bif inI64 (i + 1) then
              K0 ((out ++ [Int.tmod more 10000]), Int.tdiv more 10000, i + 1)
              else none
              else none
              else none
        else
          some out
theorem r1_up_l1 (N : Nat) (a : List Int) (b : List Int)  (n : Nat) (e : List Int × Int × Int) : iterF (r1_up_R1 N ) n ((r1_up_E1 a b) e) ((r1_up_S1 a b) e) = iter (r1_up_B1 N a b ) n e :=
  loop_iter (r1_up_E1 a b) (r1_up_S1 a b) (by intro K e; obtain ⟨out, more, i⟩ := e; kernel_rfl) n e
def r1_up_t (N : Nat) (a : List Int) (b : List Int) (l1 : (List Int) → (List Int) → (List Int × Int × Int) → Option (List Int)) : Option (List Int) :=
  l1 a b ([], 0, 0)
def r1_up (N : Nat) (a : List Int) (b : List Int) : Option (List Int) := r1_up_t N a b (fun (a : List Int) (b : List Int) (e : List Int × Int × Int) => iter (r1_up_B1 N a b) N e)
theorem r1_up_run (N : Nat) (a : List Int) (b : List Int) : callBody DR Try.prog N (r1_up_T N) r1_up_H Try.f46 (bodyOf Try.f46) (RT [(.list (.int .i64))]) (encA [(.list (.int .i64)), (.list (.int .i64))] (a, b, ())) [] (kPure [(.list (.int .i64))]) = r1_up N a b := by
  have h : callBody DR Try.prog N (r1_up_T N) r1_up_H Try.f46 (bodyOf Try.f46) (RT [(.list (.int .i64))]) (encA [(.list (.int .i64)), (.list (.int .i64))] (a, b, ())) [] (kPure [(.list (.int .i64))]) = r1_up_t N a b (fun (a : List Int) (b : List Int) (e : List Int × Int × Int) => iterF (r1_up_R1 N ) N (r1_up_E1 a b e) (r1_up_S1 a b e)) := by kernel_rfl
  rw [h]
  simp only [r1_up, r1_up_l1] <;> rfl
def r1_up_ent (N : Nat) : Ent := specEnt [(.list (.int .i64)), (.list (.int .i64))] [(.list (.int .i64))] fun x => r1_up N x.1 x.2.1
theorem r1_up_sound (N : Nat) : EntSound Try.prog 46 (r1_up_ent N) := specEnt_sound (r1_up_Ts N) Try.func46 rfl (by kernel_rfl) fun x => r1_up_run N x.1 x.2.1
def r1_trim_H0 : LH := ⟨[(0, .bool), (1, .lst (.int .i64)), (4, .asis)], [], [.cells [.bool, .lst (.int .i64)]]⟩
def r1_trim_H : FH := ⟨[r1_trim_H0], [], [], [], false⟩
noncomputable def r1_trim_T (N : Nat) : CallT := tab []
theorem r1_trim_Ts (N : Nat) : CallSound Try.prog (r1_trim_T N) := tab_nil _
noncomputable def r1_trim_sc : Sc := ⟨Try.prog, r1_trim_H.arrs, r1_trim_H.heads, r1_trim_H.frz, r1_trim_H.wrap⟩
noncomputable def r1_trim_cf (N : Nat) : Cfg := ⟨N, r1_trim_T N, 0⟩
noncomputable def r1_trim_fin (N : Nat) : Exit → List TV → List TOb → Option T_N1 := fin Try.prog 0 Try.f45.results.toList (kPure [t_N1])
def r1_trim_E1 (neg : Bool) (t4_Neg : Bool) (t4_D : List Int) (e : List Int) : List TV := match e with
  | d1 => [.bool neg, .tl (.int .i64) d1 .unk, .undef, .undef, .ref 0 0, .undef, .undef, .undef, .undef, .undef, .undef, .undef, .undef, .undef, .undef, .undef, .undef, .undef, .undef, .undef, .undef, .undef, .undef, .undef, .undef, .undef, .undef, .undef, .undef, .undef]
def r1_trim_S1 (neg : Bool) (t4_Neg : Bool) (t4_D : List Int) (e : List Int) : List TOb := match e with
  | d1 => [.cells [.bool t4_Neg, .tl (.int .i64) t4_D .unk] 24 true]
noncomputable def r1_trim_R1 (N : Nat)  : (List TV → List TOb → Option T_N1) → List TV → List TOb → Option T_N1 := rawL DR r1_trim_sc (r1_trim_cf N) (lopB (blkB (seqL (seqR (bodyOf Try.f45))))) r1_trim_H0 (r1_trim_H.loops.drop 1) (kBlk 0 (kSeq DR r1_trim_sc (r1_trim_cf N) (seqR (seqR (bodyOf Try.f45))) (r1_trim_H.loops.drop 1) (r1_trim_fin N)))
def r1_trim_B1 (N : Nat) (neg : Bool) (t4_Neg : Bool) (t4_D : List Int)  (K0 : (List Int) → Option T_N1) (e : List Int) : Option T_N1 :=
  match e with
  | d1 =>
    bif decide ((d1.length : Int) > 0) then
      bif inI64 ((d1.length : Int) - 1) then
      bif inR ((d1.length : Int) - 1) d1.length then
      bif ((nthD d1 ((d1.length : Int) - 1) 0) == 0) then
        bif inI64 ((d1.length : Int) - 1) then
        bif upTo ((d1.length : Int) - 1) d1.length then
        K0 (d1.take ((d1.length : Int) - 1).toNat)
        else none
        else none
      else
        bif neg then
          some (decide ((d1.length : Int) > 0), d1, ())
        else
          some (false, d1, ())
      else none
      else none
    else
      bif neg then
        some (decide ((d1.length : Int) > 0), d1, ())
      else
        some (false, d1, ())
theorem r1_trim_l1 (N : Nat) (neg : Bool) (t4_Neg : Bool) (t4_D : List Int)  (n : Nat) (e : List Int) : iterF (r1_trim_R1 N ) n ((r1_trim_E1 neg t4_Neg t4_D) e) ((r1_trim_S1 neg t4_Neg t4_D) e) = iter (r1_trim_B1 N neg t4_Neg t4_D ) n e :=
  loop_iter (r1_trim_E1 neg t4_Neg t4_D) (r1_trim_S1 neg t4_Neg t4_D) (by intro K e; kernel_rfl) n e
def r1_trim_t (N : Nat) (neg : Bool) (d : List Int) (l1 : Bool → Bool → (List Int) → (List Int) → Option T_N1) : Option T_N1 :=
  l1 neg false [] d
def r1_trim (N : Nat) (neg : Bool) (d : List Int) : Option T_N1 := r1_trim_t N neg d (fun (neg : Bool) (t4_Neg : Bool) (t4_D : List Int) (e : List Int) => iter (r1_trim_B1 N neg t4_Neg t4_D) N e)
theorem r1_trim_run (N : Nat) (neg : Bool) (d : List Int) : callBody DR Try.prog N (r1_trim_T N) r1_trim_H Try.f45 (bodyOf Try.f45) (RT [t_N1]) (encA [.bool, (.list (.int .i64))] (neg, d, ())) [] (kPure [t_N1]) = r1_trim N neg d := by
  have h : callBody DR Try.prog N (r1_trim_T N) r1_trim_H Try.f45 (bodyOf Try.f45) (RT [t_N1]) (encA [.bool, (.list (.int .i64))] (neg, d, ())) [] (kPure [t_N1]) = r1_trim_t N neg d (fun (neg : Bool) (t4_Neg : Bool) (t4_D : List Int) (e : List Int) => iterF (r1_trim_R1 N ) N (r1_trim_E1 neg t4_Neg t4_D e) (r1_trim_S1 neg t4_Neg t4_D e)) := by kernel_rfl
  rw [h]
  simp only [r1_trim, r1_trim_l1] <;> rfl
def r1_trim_ent (N : Nat) : Ent := specEnt [.bool, (.list (.int .i64))] [t_N1] fun x => r1_trim N x.1 x.2.1
theorem r1_trim_sound (N : Nat) : EntSound Try.prog 45 (r1_trim_ent N) := specEnt_sound (r1_trim_Ts N) Try.func45 rfl (by kernel_rfl) fun x => r1_trim_run N x.1 x.2.1
def r1_by_H0 : LH := ⟨[(0, .lst (.int .i64)), (1, .lst (.int .i64)), (5, .int .i64)], [], []⟩
def r1_by_H : FH := ⟨[r1_by_H0], [], [(6, ⟨8, 41, 0, []⟩), (7, ⟨8, 41, 0, []⟩)], [], false⟩
noncomputable def r1_by_T (N : Nat) : CallT := tab []
theorem r1_by_Ts (N : Nat) : CallSound Try.prog (r1_by_T N) := tab_nil _
noncomputable def r1_by_sc : Sc := ⟨Try.prog, r1_by_H.arrs, r1_by_H.heads, r1_by_H.frz, r1_by_H.wrap⟩
noncomputable def r1_by_cf (N : Nat) : Cfg := ⟨N, r1_by_T N, 0⟩
noncomputable def r1_by_fin (N : Nat) : Exit → List TV → List TOb → Option Int := fin Try.prog 0 Try.f47.results.toList (kPure [(.int .i64)])
def r1_by_E1 (a : List Int) (b : List Int) (e : Int) : List TV := match e with
  | i => [.tl (.int .i64) a .unk, .tl (.int .i64) b .unk, .undef, .undef, .undef, .int .i64 i, .undef, .undef, .undef, .undef, .undef, .undef, .undef, .undef, .undef, .undef, .undef, .undef, .undef, .undef, .undef, .undef, .undef, .undef, .undef, .undef, .undef, .undef, .undef, .undef, .undef, .undef, .undef, .undef, .undef, .undef, .undef, .undef, .undef, .undef, .undef]
def r1_by_S1 (a : List Int) (b : List Int) (e : Int) : List TOb := match e with
  | i => []
noncomputable def r1_by_R1 (N : Nat)  : (List TV → List TOb → Option Int) → List TV → List TOb → Option Int := rawL DR r1_by_sc (r1_by_cf N) (lopB (blkB (seqR (seqL (seqR (seqR (bodyOf Try.f47))))))) r1_by_H0 (r1_by_H.loops.drop 1) (kBlk 0 (kSeq DR r1_by_sc (r1_by_cf N) (seqR (seqR (seqR (bodyOf Try.f47)))) (r1_by_H.loops.drop 1) (r1_by_fin N)))
def r1_by_B1 (N : Nat) (a : List Int) (b : List Int)  (K0 : Int → Option Int) (e : Int) : Option Int :=
  match e with
  | i =>
    bif decide (i ≥ 0) then
      bif inR i a.length then
      bif inR i b.length then
      bif ((nthD a i 0) != (nthD b i 0)) then
        bif inR i a.length then
        bif inR i b.length then
        bif inI64 ((nthD a i 0) - (nthD b i 0)) then
        some ((nthD a i 0) - (nthD b i 0))
        else none
        else none
        else none
      else
        bif inI64 (i - 1) then
        K0 (i - 1)
        else none
      else none
      else none
    else
      some 0
theorem r1_by_l1 (N : Nat) (a : List Int) (b : List Int)  (n : Nat) (e : Int) : iterF (r1_by_R1 N ) n ((r1_by_E1 a b) e) ((r1_by_S1 a b) e) = iter (r1_by_B1 N a b ) n e :=
  loop_iter (r1_by_E1 a b) (r1_by_S1 a b) (by intro K e; kernel_rfl) n e
def r1_by_t (N : Nat) (a : List Int) (b : List Int) (l1 : (List Int) → (List Int) → Int → Option Int) : Option Int :=
  bif ((a.length : Int) != (b.length : Int)) then
    bif inI64 ((a.length : Int) - (b.length : Int)) then
    some ((a.length : Int) - (b.length : Int))
    else none
  else
    bif inI64 ((a.length : Int) - 1) then
    l1 a b ((a.length : Int) - 1)
    else none
def r1_by (N : Nat) (a : List Int) (b : List Int) : Option Int := r1_by_t N a b (fun (a : List Int) (b : List Int) (e : Int) => iter (r1_by_B1 N a b) N e)
theorem r1_by_run (N : Nat) (a : List Int) (b : List Int) : callBody DR Try.prog N (r1_by_T N) r1_by_H Try.f47 (bodyOf Try.f47) (RT [(.int .i64)]) (encA [(.list (.int .i64)), (.list (.int .i64))] (a, b, ())) [] (kPure [(.int .i64)]) = r1_by N a b := by
  have h : callBody DR Try.prog N (r1_by_T N) r1_by_H Try.f47 (bodyOf Try.f47) (RT [(.int .i64)]) (encA [(.list (.int .i64)), (.list (.int .i64))] (a, b, ())) [] (kPure [(.int .i64)]) = r1_by_t N a b (fun (a : List Int) (b : List Int) (e : Int) => iterF (r1_by_R1 N ) N (r1_by_E1 a b e) (r1_by_S1 a b e)) := by kernel_rfl
  rw [h]
  simp only [r1_by, r1_by_l1] <;> rfl
def r1_by_ent (N : Nat) : Ent := specEnt [(.list (.int .i64)), (.list (.int .i64))] [(.int .i64)] fun x => r1_by N x.1 x.2.1
theorem r1_by_sound (N : Nat) : EntSound Try.prog 47 (r1_by_ent N) := specEnt_sound (r1_by_Ts N) Try.func47 rfl (by kernel_rfl) fun x => r1_by_run N x.1 x.2.1
def r1_down_H0 : LH := ⟨[(0, .lst (.int .i64)), (1, .lst (.int .i64)), (5, .own (.int .i64) 505 3 1), (6, .int .i64), (7, .int .i64)], [], []⟩
def r1_down_H : FH := ⟨[r1_down_H0], [], [], [], false⟩
noncomputable def r1_down_T (N : Nat) : CallT := tab []
theorem r1_down_Ts (N : Nat) : CallSound Try.prog (r1_down_T N) := tab_nil _
noncomputable def r1_down_sc : Sc := ⟨Try.prog, r1_down_H.arrs, r1_down_H.heads, r1_down_H.frz, r1_down_H.wrap⟩
noncomputable def r1_down_cf (N : Nat) : Cfg := ⟨N, r1_down_T N, 0⟩
noncomputable def r1_down_fin (N : Nat) : Exit → List TV → List TOb → Option (List Int) := fin Try.prog 0 Try.f48.results.toList (kPure [(.list (.int .i64))])
def r1_down_E1 (a : List Int) (b : List Int) (e : List Int × Int × Int) : List TV := match e with
  | (out, owed, i) => [.tl (.int .i64) a .unk, .tl (.int .i64) b .unk, .undef, .undef, .undef, .tl (.int .i64) out (.own 505 3 1), .int .i64 owed, .int .i64 i, .undef, .undef, .undef, .undef, .undef, .undef, .undef, .undef, .undef, .undef, .undef, .undef, .undef, .undef, .undef, .undef, .undef, .undef, .undef, .undef, .undef, .undef, .undef, .undef, .undef, .undef, .undef, .undef, .undef, .undef, .undef, .undef]
def r1_down_S1 (a : List Int) (b : List Int) (e : List Int × Int × Int) : List TOb := match e with
  | (out, owed, i) => []
noncomputable def r1_down_R1 (N : Nat)  : (List TV → List TOb → Option (List Int)) → List TV → List TOb → Option (List Int) := rawL DR r1_down_sc (r1_down_cf N) (lopB (blkB (seqR (seqL (seqR (seqR (seqR (bodyOf Try.f48)))))))) r1_down_H0 (r1_down_H.loops.drop 1) (kBlk 0 (kSeq DR r1_down_sc (r1_down_cf N) (seqR (seqR (seqR (seqR (bodyOf Try.f48))))) (r1_down_H.loops.drop 1) (r1_down_fin N)))
def r1_down_B1 (N : Nat) (a : List Int) (b : List Int)  (K0 : (List Int × Int × Int) → Option (List Int)) (e : List Int × Int × Int) : Option (List Int) :=
  match e with
  | (out, owed, i) =>
    bif decide (i < (a.length : Int)) then
      bif inR i a.length then
      bif inI64 ((nthD a i 0) - owed) then
      bif decide (i < (b.length : Int)) then
        bif inR i b.length then
        bif inI64 (((nthD a i 0) - owed) - (nthD b i 0)) then
        bif decide ((((nthD a i 0) - owed) - (nthD b i 0)) < 0) then
          bif inI64 ((((nthD a i 0) - owed) - (nthD b i 0)) + 10000) then
          bif fits (out.length + [(((nthD a i 0) - owed) - (nthD b i 0)) + 10000].length) 17592186044416 then
          bif inI64 (i + 1) then
          K0 ((out ++ [(((nthD a i 0) - owed) - (nthD b i 0)) + 10000]), 1, i + 1)
          else none
          else none
          else none
        else
          bif fits (out.length + [((nthD a i 0) - owed) - (nthD b i 0)].length) 17592186044416 then
          bif inI64 (i + 1) then
          K0 ((out ++ [((nthD a i 0) - owed) - (nthD b i 0)]), 0, i + 1)
          else none
          else none
        else none
        else none
      else
        bif decide (((nthD a i 0) - owed) < 0) then
          bif inI64 (((nthD a i 0) - owed) + 10000) then
          bif fits (out.length + [((nthD a i 0) - owed) + 10000].length) 17592186044416 then
          bif inI64 (i + 1) then
          K0 ((out ++ [((nthD a i 0) - owed) + 10000]), 1, i + 1)
          else none
          else none
          else none
        else
          bif fits (out.length + [(nthD a i 0) - owed].length) 17592186044416 then
          bif inI64 (i + 1) then
          K0 ((out ++ [(nthD a i 0) - owed]), 0, i + 1)
          else none
          else none
      else none
      else none
    else
      some out
theorem r1_down_l1 (N : Nat) (a : List Int) (b : List Int)  (n : Nat) (e : List Int × Int × Int) : iterF (r1_down_R1 N ) n ((r1_down_E1 a b) e) ((r1_down_S1 a b) e) = iter (r1_down_B1 N a b ) n e :=
  loop_iter (r1_down_E1 a b) (r1_down_S1 a b) (by intro K e; obtain ⟨out, owed, i⟩ := e; kernel_rfl) n e
def r1_down_t (N : Nat) (a : List Int) (b : List Int) (l1 : (List Int) → (List Int) → (List Int × Int × Int) → Option (List Int)) : Option (List Int) :=
  l1 a b ([], 0, 0)
def r1_down (N : Nat) (a : List Int) (b : List Int) : Option (List Int) := r1_down_t N a b (fun (a : List Int) (b : List Int) (e : List Int × Int × Int) => iter (r1_down_B1 N a b) N e)
theorem r1_down_run (N : Nat) (a : List Int) (b : List Int) : callBody DR Try.prog N (r1_down_T N) r1_down_H Try.f48 (bodyOf Try.f48) (RT [(.list (.int .i64))]) (encA [(.list (.int .i64)), (.list (.int .i64))] (a, b, ())) [] (kPure [(.list (.int .i64))]) = r1_down N a b := by
  have h : callBody DR Try.prog N (r1_down_T N) r1_down_H Try.f48 (bodyOf Try.f48) (RT [(.list (.int .i64))]) (encA [(.list (.int .i64)), (.list (.int .i64))] (a, b, ())) [] (kPure [(.list (.int .i64))]) = r1_down_t N a b (fun (a : List Int) (b : List Int) (e : List Int × Int × Int) => iterF (r1_down_R1 N ) N (r1_down_E1 a b e) (r1_down_S1 a b e)) := by kernel_rfl
  rw [h]
  simp only [r1_down, r1_down_l1] <;> rfl
def r1_down_ent (N : Nat) : Ent := specEnt [(.list (.int .i64)), (.list (.int .i64))] [(.list (.int .i64))] fun x => r1_down N x.1 x.2.1
theorem r1_down_sound (N : Nat) : EntSound Try.prog 48 (r1_down_ent N) := specEnt_sound (r1_down_Ts N) Try.func48 rfl (by kernel_rfl) fun x => r1_down_run N x.1 x.2.1
def r1_Add_H : FH := ⟨[], [], [(2, ⟨7, 40, 0, []⟩), (4, ⟨7, 40, 0, []⟩), (5, ⟨7, 40, 0, []⟩)], [], false⟩
noncomputable def r1_Add_T (N : Nat) : CallT := tab [(46, r1_up_ent N), (45, r1_trim_ent N), (47, r1_by_ent N), (48, r1_down_ent N)]
theorem r1_Add_Ts (N : Nat) : CallSound Try.prog (r1_Add_T N) := tab_cons (r1_up_sound N) <| tab_cons (r1_trim_sound N) <| tab_cons (r1_by_sound N) <| tab_cons (r1_down_sound N) <| tab_nil _
noncomputable def r1_Add_sc : Sc := ⟨Try.prog, r1_Add_H.arrs, r1_Add_H.heads, r1_Add_H.frz, r1_Add_H.wrap⟩
noncomputable def r1_Add_cf (N : Nat) : Cfg := ⟨N, r1_Add_T N, 0⟩
def r1_Add (N : Nat) (x : T_N1) (y : T_N1) : Option T_N1 :=
  bif (x.1 == y.1) then
    (r1_up N x.2.1 y.2.1).bind fun (r : List Int) =>
    (r1_trim N x.1 r).bind fun (r1 : T_N1) =>
    some r1
  else
    (r1_by N x.2.1 y.2.1).bind fun (r2 : Int) =>
    bif decide (r2 ≥ 0) then
      (r1_down N x.2.1 y.2.1).bind fun (r3 : List Int) =>
      (r1_trim N x.1 r3).bind fun (r4 : T_N1) =>
      some r4
    else
      (r1_down N y.2.1 x.2.1).bind fun (r5 : List Int) =>
      (r1_trim N y.1 r5).bind fun (r6 : T_N1) =>
      some r6
theorem r1_Add_run (N : Nat) (x : T_N1) (y : T_N1) : callBody DR Try.prog N (r1_Add_T N) r1_Add_H Try.f13 (bodyOf Try.f13) (RT [t_N1]) (encA [t_N1, t_N1] (x, y, ())) [] (kPure [t_N1]) = r1_Add N x y := by kernel_rfl
def r1_Add_ent (N : Nat) : Ent := specEnt [t_N1, t_N1] [t_N1] fun x => r1_Add N x.1 x.2.1
theorem r1_Add_sound (N : Nat) : EntSound Try.prog 13 (r1_Add_ent N) := specEnt_sound (r1_Add_Ts N) Try.func13 rfl (by kernel_rfl) fun x => r1_Add_run N x.1 x.2.1
def r1_Neg_H : FH := ⟨[], [], [], [], false⟩
noncomputable def r1_Neg_T (N : Nat) : CallT := tab [(45, r1_trim_ent N)]
theorem r1_Neg_Ts (N : Nat) : CallSound Try.prog (r1_Neg_T N) := tab_cons (r1_trim_sound N) <| tab_nil _
noncomputable def r1_Neg_sc : Sc := ⟨Try.prog, r1_Neg_H.arrs, r1_Neg_H.heads, r1_Neg_H.frz, r1_Neg_H.wrap⟩
noncomputable def r1_Neg_cf (N : Nat) : Cfg := ⟨N, r1_Neg_T N, 0⟩
def r1_Neg (N : Nat) (x : T_N1) : Option T_N1 :=
  (r1_trim N (!x.1) x.2.1).bind fun (r : T_N1) =>
  some r
theorem r1_Neg_run (N : Nat) (x : T_N1) : callBody DR Try.prog N (r1_Neg_T N) r1_Neg_H Try.f49 (bodyOf Try.f49) (RT [t_N1]) (encA [t_N1] (x, ())) [] (kPure [t_N1]) = r1_Neg N x := by kernel_rfl
def r1_Neg_ent (N : Nat) : Ent := specEnt [t_N1] [t_N1] fun x => r1_Neg N x.1
theorem r1_Neg_sound (N : Nat) : EntSound Try.prog 49 (r1_Neg_ent N) := specEnt_sound (r1_Neg_Ts N) Try.func49 rfl (by kernel_rfl) fun x => r1_Neg_run N x.1
def r1_Sub_H : FH := ⟨[], [], [(1, ⟨3, 9, 0, []⟩)], [], false⟩
noncomputable def r1_Sub_T (N : Nat) : CallT := tab [(49, r1_Neg_ent N), (13, r1_Add_ent N)]
theorem r1_Sub_Ts (N : Nat) : CallSound Try.prog (r1_Sub_T N) := tab_cons (r1_Neg_sound N) <| tab_cons (r1_Add_sound N) <| tab_nil _
noncomputable def r1_Sub_sc : Sc := ⟨Try.prog, r1_Sub_H.arrs, r1_Sub_H.heads, r1_Sub_H.frz, r1_Sub_H.wrap⟩
noncomputable def r1_Sub_cf (N : Nat) : Cfg := ⟨N, r1_Sub_T N, 0⟩
def r1_Sub (N : Nat) (x : T_N1) (y : T_N1) : Option T_N1 :=
  (r1_Neg N y).bind fun (r : T_N1) =>
  (r1_Add N x r).bind fun (r1 : T_N1) =>
  some r1
theorem r1_Sub_run (N : Nat) (x : T_N1) (y : T_N1) : callBody DR Try.prog N (r1_Sub_T N) r1_Sub_H Try.f14 (bodyOf Try.f14) (RT [t_N1]) (encA [t_N1, t_N1] (x, y, ())) [] (kPure [t_N1]) = r1_Sub N x y := by kernel_rfl
def r1_Sub_ent (N : Nat) : Ent := specEnt [t_N1, t_N1] [t_N1] fun x => r1_Sub N x.1 x.2.1
theorem r1_Sub_sound (N : Nat) : EntSound Try.prog 14 (r1_Sub_ent N) := specEnt_sound (r1_Sub_Ts N) Try.func14 rfl (by kernel_rfl) fun x => r1_Sub_run N x.1 x.2.1
def r1_Cmp_H : FH := ⟨[], [], [], [], false⟩
noncomputable def r1_Cmp_T (N : Nat) : CallT := tab [(14, r1_Sub_ent N)]
theorem r1_Cmp_Ts (N : Nat) : CallSound Try.prog (r1_Cmp_T N) := tab_cons (r1_Sub_sound N) <| tab_nil _
noncomputable def r1_Cmp_sc : Sc := ⟨Try.prog, r1_Cmp_H.arrs, r1_Cmp_H.heads, r1_Cmp_H.frz, r1_Cmp_H.wrap⟩
noncomputable def r1_Cmp_cf (N : Nat) : Cfg := ⟨N, r1_Cmp_T N, 0⟩
def r1_Cmp (N : Nat) (x : T_N1) (y : T_N1) : Option Int :=
  (r1_Sub N x y).bind fun (r : T_N1) =>
  bif r.1 then
    some (-1)
  else
    bif decide ((r.2.1.length : Int) > 0) then
      some 1
    else
      some 0
theorem r1_Cmp_run (N : Nat) (x : T_N1) (y : T_N1) : callBody DR Try.prog N (r1_Cmp_T N) r1_Cmp_H Try.f50 (bodyOf Try.f50) (RT [(.int .i64)]) (encA [t_N1, t_N1] (x, y, ())) [] (kPure [(.int .i64)]) = r1_Cmp N x y := by kernel_rfl
def r1_Cmp_ent (N : Nat) : Ent := specEnt [t_N1, t_N1] [(.int .i64)] fun x => r1_Cmp N x.1 x.2.1
theorem r1_Cmp_sound (N : Nat) : EntSound Try.prog 50 (r1_Cmp_ent N) := specEnt_sound (r1_Cmp_Ts N) Try.func50 rfl (by kernel_rfl) fun x => r1_Cmp_run N x.1 x.2.1
def r1_N_Int_H0 : LH := ⟨[(1, .asis), (6, .int .i64), (7, .int .i64)], [], [.cells [.bool, .lst (.int .i64)], .cells [.bool, .lst (.int .i64)], .cells [.bool, .lst (.int .i64)]]⟩
def r1_N_Int_H : FH := ⟨[r1_N_Int_H0], [], [], [], false⟩
noncomputable def r1_N_Int_T (N : Nat) : CallT := tab [(6, r1_Of_ent N), (50, r1_Cmp_ent N)]
theorem r1_N_Int_Ts (N : Nat) : CallSound Try.prog (r1_N_Int_T N) := tab_cons (r1_Of_sound N) <| tab_cons (r1_Cmp_sound N) <| tab_nil _
noncomputable def r1_N_Int_sc : Sc := ⟨Try.prog, r1_N_Int_H.arrs, r1_N_Int_H.heads, r1_N_Int_H.frz, r1_N_Int_H.wrap⟩
noncomputable def r1_N_Int_cf (N : Nat) : Cfg := ⟨N, r1_N_Int_T N, 0⟩
noncomputable def r1_N_Int_fin (N : Nat) : Exit → List TV → List TOb → Option (Int × Int × Unit) := fin Try.prog 0 Try.f44.results.toList (kPure [(.int .i64), (.int .i64)])
def r1_N_Int_E1 (x_Neg : Bool) (x_D : List Int) (o1_Neg : Bool) (o1_D : List Int) (o2_Neg : Bool) (o2_D : List Int) (e : Int × Int) : List TV := match e with
  | (n, i) => [.undef, .ref 0 0, .undef, .undef, .undef, .undef, .int .i64 n, .int .i64 i, .undef, .undef, .undef, .undef, .undef, .undef, .undef, .undef, .undef, .undef, .undef, .undef, .undef, .undef, .undef, .undef, .undef, .undef, .undef, .undef, .undef, .undef, .undef, .undef, .undef, .undef, .undef, .undef, .undef, .undef, .undef, .undef, .undef, .undef, .undef, .undef, .undef, .undef, .undef]
def r1_N_Int_S1 (x_Neg : Bool) (x_D : List Int) (o1_Neg : Bool) (o1_D : List Int) (o2_Neg : Bool) (o2_D : List Int) (e : Int × Int) : List TOb := match e with
  | (n, i) => [.cells [.bool x_Neg, .tl (.int .i64) x_D .unk] 24 true, .cells [.bool o1_Neg, .tl (.int .i64) o1_D .unk] 24 true, .cells [.bool o2_Neg, .tl (.int .i64) o2_D .unk] 24 true]
noncomputable def r1_N_Int_R1 (N : Nat)  : (List TV → List TOb → Option (Int × Int × Unit)) → List TV → List TOb → Option (Int × Int × Unit) := rawL DR r1_N_Int_sc (r1_N_Int_cf N) (lopB (blkB (seqR (seqL (seqR (seqR (seqR (seqR (bodyOf Try.f44))))))))) r1_N_Int_H0 (r1_N_Int_H.loops.drop 1) (kBlk 0 (kSeq DR r1_N_Int_sc (r1_N_Int_cf N) (seqR (seqR (seqR (seqR (seqR (bodyOf Try.f44)))))) (r1_N_Int_H.loops.drop 1) (r1_N_Int_fin N)))
def r1_N_Int_B1 (N : Nat) (x_Neg : Bool) (x_D : List Int) (o1_Neg : Bool) (o1_D : List Int) (o2_Neg : Bool) (o2_D : List Int)  (K0 : (Int × Int) → Option (Int × Int × Unit)) (e : Int × Int) : Option (Int × Int × Unit) :=
  match e with
  | (n, i) =>
    bif decide (i ≥ 0) then
      bif x_Neg then
        bif inI64 (n * 10000) then
        bif inR i x_D.length then
        bif inI64 ((n * 10000) - (nthD x_D i 0)) then
        bif inI64 (i - 1) then
        K0 ((n * 10000) - (nthD x_D i 0), i - 1)
        else none
        else none
        else none
        else none
      else
        bif inI64 (n * 10000) then
        bif inR i x_D.length then
        bif inI64 ((n * 10000) + (nthD x_D i 0)) then
        bif inI64 (i - 1) then
        K0 ((n * 10000) + (nthD x_D i 0), i - 1)
        else none
        else none
        else none
        else none
    else
      some (n, 0, ())
theorem r1_N_Int_l1 (N : Nat) (x_Neg : Bool) (x_D : List Int) (o1_Neg : Bool) (o1_D : List Int) (o2_Neg : Bool) (o2_D : List Int)  (n : Nat) (e : Int × Int) : iterF (r1_N_Int_R1 N ) n ((r1_N_Int_E1 x_Neg x_D o1_Neg o1_D o2_Neg o2_D) e) ((r1_N_Int_S1 x_Neg x_D o1_Neg o1_D o2_Neg o2_D) e) = iter (r1_N_Int_B1 N x_Neg x_D o1_Neg o1_D o2_Neg o2_D ) n e :=
  loop_iter (r1_N_Int_E1 x_Neg x_D o1_Neg o1_D o2_Neg o2_D) (r1_N_Int_S1 x_Neg x_D o1_Neg o1_D o2_Neg o2_D) (by intro K e; obtain ⟨n, i⟩ := e; kernel_rfl) n e
def r1_N_Int_t (N : Nat) (x : T_N1) (l1 : Bool → (List Int) → Bool → (List Int) → Bool → (List Int) → (Int × Int) → Option (Int × Int × Unit)) : Option (Int × Int × Unit) :=
  (r1_Of N (-9223372036854775808)).bind fun (r : T_N1) =>
  (r1_Of N 9223372036854775807).bind fun (r1 : T_N1) =>
  (r1_Cmp N x r).bind fun (r2 : Int) =>
  bif decide (r2 < 0) then
    some (0, 9, ())
  else
    (r1_Cmp N x r1).bind fun (r3 : Int) =>
    bif decide (r3 > 0) then
      some (0, 9, ())
    else
      bif inI64 ((x.2.1.length : Int) - 1) then
      l1 x.1 x.2.1 r.1 r.2.1 r1.1 r1.2.1 (0, (x.2.1.length : Int) - 1)
      else none
def r1_N_Int (N : Nat) (x : T_N1) : Option (Int × Int × Unit) := r1_N_Int_t N x (fun (x_Neg : Bool) (x_D : List Int) (o1_Neg : Bool) (o1_D : List Int) (o2_Neg : Bool) (o2_D : List Int) (e : Int × Int) => iter (r1_N_Int_B1 N x_Neg x_D o1_Neg o1_D o2_Neg o2_D) N e)
theorem r1_N_Int_run (N : Nat) (x : T_N1) : callBody DR Try.prog N (r1_N_Int_T N) r1_N_Int_H Try.f44 (bodyOf Try.f44) (RT [(.int .i64), (.int .i64)]) (encA [t_N1] (x, ())) [] (kPure [(.int .i64), (.int .i64)]) = r1_N_Int N x := by
  have h : callBody DR Try.prog N (r1_N_Int_T N) r1_N_Int_H Try.f44 (bodyOf Try.f44) (RT [(.int .i64), (.int .i64)]) (encA [t_N1] (x, ())) [] (kPure [(.int .i64), (.int .i64)]) = r1_N_Int_t N x (fun (x_Neg : Bool) (x_D : List Int) (o1_Neg : Bool) (o1_D : List Int) (o2_Neg : Bool) (o2_D : List Int) (e : Int × Int) => iterF (r1_N_Int_R1 N ) N (r1_N_Int_E1 x_Neg x_D o1_Neg o1_D o2_Neg o2_D e) (r1_N_Int_S1 x_Neg x_D o1_Neg o1_D o2_Neg o2_D e)) := by kernel_rfl
  rw [h]
  simp only [r1_N_Int, r1_N_Int_l1] <;> rfl
def r1_N_Int_ent (N : Nat) : Ent := specEnt [t_N1] [(.int .i64), (.int .i64)] fun x => r1_N_Int N x.1
theorem r1_N_Int_sound (N : Nat) : EntSound Try.prog 44 (r1_N_Int_ent N) := specEnt_sound (r1_N_Int_Ts N) Try.func44 rfl (by kernel_rfl) fun x => r1_N_Int_run N x.1
def w1_told_H : FH := ⟨[], [], [], [], false⟩
noncomputable def w1_told_T (N : Nat) : CallT := tab [(44, r1_N_Int_ent N)]
theorem w1_told_Ts (N : Nat) : CallSound Try.prog (w1_told_T N) := tab_cons (r1_N_Int_sound N) <| tab_nil _
noncomputable def w1_told_sc : Sc := ⟨Try.prog, w1_told_H.arrs, w1_told_H.heads, w1_told_H.frz, w1_told_H.wrap⟩
noncomputable def w1_told_cf (N : Nat) : Cfg := ⟨N, w1_told_T N, 0⟩
def w1_told (N : Nat) (n : Int) (e_ : Int) (want : T_N1) : Option Bool :=
  (r1_N_Int N want).bind fun (r : Int × Int × Unit) =>
  bif (n == r.1) then
    some (e_ == r.2.1)
  else
    some false
theorem w1_told_run (N : Nat) (n : Int) (e_ : Int) (want : T_N1) : callBody DR Try.prog N (w1_told_T N) w1_told_H Try.f12 (bodyOf Try.f12) (RT [.bool]) (encA [(.int .i64), (.int .i64), t_N1] (n, e_, want, ())) [] (kPure [.bool]) = w1_told N n e_ want := by kernel_rfl
def w1_told_ent (N : Nat) : Ent := specEnt [(.int .i64), (.int .i64), t_N1] [.bool] fun x => w1_told N x.1 x.2.1 x.2.2.1
theorem w1_told_sound (N : Nat) : EntSound Try.prog 12 (w1_told_ent N) := specEnt_sound (w1_told_Ts N) Try.func12 rfl (by kernel_rfl) fun x => w1_told_run N x.1 x.2.1 x.2.2.1
def r1_Mul_H0 : LH := ⟨[(2, .asis), (3, .asis), (4, .asis), (5, .asis), (6, .int .i64)], [], [.cells [.bool, .lst (.int .i64)], .cells [.bool, .lst (.int .i64)], .cells [.bool, .lst (.int .i64)], .cells [.bool, .lst (.int .i64)]]⟩
def r1_Mul_H1 : LH := ⟨[(2, .asis), (3, .asis), (4, .asis), (5, .asis), (6, .int .i64), (7, .own (.int .i64) 507 3 1), (8, .int .i64), (9, .int .i64)], [], [.cells [.bool, .lst (.int .i64)], .cells [.bool, .lst (.int .i64)], .cells [.bool, .lst (.int .i64)], .cells [.bool, .lst (.int .i64)]]⟩
def r1_Mul_H : FH := ⟨[r1_Mul_H0, r1_Mul_H1], [], [(11, ⟨12, 69, 0, []⟩)], [], false⟩
noncomputable def r1_Mul_T (N : Nat) : CallT := tab [(46, r1_up_ent N), (45, r1_trim_ent N)]
theorem r1_Mul_Ts (N : Nat) : CallSound Try.prog (r1_Mul_T N) := tab_cons (r1_up_sound N) <| tab_cons (r1_trim_sound N) <| tab_nil _
noncomputable def r1_Mul_sc : Sc := ⟨Try.prog, r1_Mul_H.arrs, r1_Mul_H.heads, r1_Mul_H.frz, r1_Mul_H.wrap⟩
noncomputable def r1_Mul_cf (N : Nat) : Cfg := ⟨N, r1_Mul_T N, 0⟩
noncomputable def r1_Mul_fin (N : Nat) : Exit → List TV → List TOb → Option T_N1 := fin Try.prog 0 Try.f15.results.toList (kPure [t_N1])
def r1_Mul_E1 (x_Neg : Bool) (x_D : List Int) (y_Neg : Bool) (y_D : List Int) (t4_Neg : Bool) (t4_D : List Int) (e : Int × Bool × List Int) : List TV := match e with
  | (i, sum_Neg, sum_D) => [.undef, .undef, .ref 0 0, .ref 1 0, .ref 2 0, .ref 3 0, .int .i64 i, .undef, .undef, .undef, .undef, .undef, .undef, .undef, .undef, .undef, .undef, .undef, .undef, .undef, .undef, .undef, .undef, .undef, .undef, .undef, .undef, .undef, .undef, .undef, .undef, .undef, .undef, .undef, .undef, .undef, .undef, .undef, .undef, .undef, .undef, .undef, .undef, .undef, .undef, .undef, .undef, .undef, .undef, .undef, .undef, .undef, .undef, .undef, .undef, .undef, .undef, .undef, .undef, .undef, .undef, .undef, .undef, .undef, .undef, .undef, .undef, .undef, .undef]
def r1_Mul_S1 (x_Neg : Bool) (x_D : List Int) (y_Neg : Bool) (y_D : List Int) (t4_Neg : Bool) (t4_D : List Int) (e : Int × Bool × List Int) : List TOb := match e with
  | (i, sum_Neg, sum_D) => [.cells [.bool x_Neg, .tl (.int .i64) x_D .unk] 24 true, .cells [.bool y_Neg, .tl (.int .i64) y_D .unk] 24 true, .cells [.bool t4_Neg, .tl (.int .i64) t4_D .unk] 24 true, .cells [.bool sum_Neg, .tl (.int .i64) sum_D .unk] 24 true]
def r1_Mul_E2 (i : Int) (x_Neg : Bool) (x_D : List Int) (y_Neg : Bool) (y_D : List Int) (t4_Neg : Bool) (t4_D : List Int) (sum_Neg : Bool) (sum_D : List Int) (e : List Int × Int × Int) : List TV := match e with
  | (row, more, k) => [.undef, .undef, .ref 0 0, .ref 1 0, .ref 2 0, .ref 3 0, .int .i64 i, .tl (.int .i64) row (.own 507 3 1), .int .i64 more, .int .i64 k, .undef, .undef, .undef, .undef, .undef, .undef, .undef, .undef, .undef, .undef, .undef, .undef, .undef, .undef, .undef, .undef, .undef, .undef, .undef, .undef, .undef, .undef, .undef, .undef, .undef, .undef, .undef, .undef, .undef, .undef, .undef, .undef, .undef, .undef, .undef, .undef, .undef, .undef, .undef, .undef, .undef, .undef, .undef, .undef, .undef, .undef, .undef, .undef, .undef, .undef, .undef, .undef, .undef, .undef, .undef, .undef, .undef, .undef, .undef]
def r1_Mul_S2 (i : Int) (x_Neg : Bool) (x_D : List Int) (y_Neg : Bool) (y_D : List Int) (t4_Neg : Bool) (t4_D : List Int) (sum_Neg : Bool) (sum_D : List Int) (e : List Int × Int × Int) : List TOb := match e with
  | (row, more, k) => [.cells [.bool x_Neg, .tl (.int .i64) x_D .unk] 24 true, .cells [.bool y_Neg, .tl (.int .i64) y_D .unk] 24 true, .cells [.bool t4_Neg, .tl (.int .i64) t4_D .unk] 24 true, .cells [.bool sum_Neg, .tl (.int .i64) sum_D .unk] 24 true]
noncomputable def r1_Mul_R2 (N : Nat) (K0r : List TV → List TOb → Option T_N1) : (List TV → List TOb → Option T_N1) → List TV → List TOb → Option T_N1 := rawL DR r1_Mul_sc (r1_Mul_cf N) (lopB (blkB (seqR (seqL (seqR (seqR (blkB (seqL (seqR (lopB (blkB (seqR (seqL (seqR (seqR (bodyOf Try.f15)))))))))))))))) r1_Mul_H1 (r1_Mul_H.loops.drop 2) (kBlk 2 (kSeq DR r1_Mul_sc (r1_Mul_cf N) (seqR (seqR (seqR (blkB (seqL (seqR (lopB (blkB (seqR (seqL (seqR (seqR (bodyOf Try.f15))))))))))))) (r1_Mul_H.loops.drop 2) (kBlk 1 (kSeq DR r1_Mul_sc (r1_Mul_cf N) (seqR (seqR (lopB (blkB (seqR (seqL (seqR (seqR (bodyOf Try.f15))))))))) (r1_Mul_H.loops.drop 2) (kLoop (r1_Mul_cf N) r1_Mul_H0 (kBlk 0 (kSeq DR r1_Mul_sc (r1_Mul_cf N) (seqR (seqR (seqR (bodyOf Try.f15)))) (r1_Mul_H.loops.drop 2) (r1_Mul_fin N))) K0r)))))
def r1_Mul_B2 (N : Nat) (i : Int) (x_Neg : Bool) (x_D : List Int) (y_Neg : Bool) (y_D : List Int) (t4_Neg : Bool) (t4_D : List Int) (sum_Neg : Bool) (sum_D : List Int) (K0 : (Int × Bool × List Int) → Option T_N1) (K1 : (List Int × Int × Int) → Option T_N1) (e : List Int × Int × Int) : Option T_N1 :=
  match e with
  | (row, more, k) =>
    bif decide (k < (x_D.length : Int)) then
      bif decide (k < (x_D.length : Int)) then
        bif inR k x_D.length then
        bif inR i y_D.length then
        bif inI64 ((nthD x_D k 0) * (nthD y_D i 0)) then
        bif inI64 (more + ((nthD x_D k 0) * (nthD y_D i 0))) then
        bif fits (row.length + [Int.tmod (more + ((nthD x_D k 0) * (nthD y_D i 0))) 10000].length) 17592186044416 then
        bif inI64 (Int.tdiv (more + ((nthD x_D k 0) * (nthD y_D i 0))) 10000) then
        bif inI64 (k + 1) then
        K1 ((row ++ [Int.tmod (more + ((nthD x_D k 0) * (nthD y_D i 0))) 10000]), Int.tdiv (more + ((nthD x_D k 0) * (nthD y_D i 0))) 10000, k + 1)
        else none
        else none
        else none
        else none
        else none
        else none
        else none
      else
        bif fits (row.length + [Int.tmod more 10000].length) 17592186044416 then
        bif inI64 (Int.tdiv more 10000) then
        bif inI64 (k + 1) then
        K1 ((row ++ [Int.tmod more 10000]), Int.tdiv more 10000, k + 1)
        else none
        else none
        else none
    else
      bif decide (more > 0) then
        bif decide (k < (x_D.length : Int)) then
          bif inR k x_D.length then
          bif inR i y_D.length then
          bif inI64 ((nthD x_D k 0) * (nthD y_D i 0)) then
          bif inI64 (more + ((nthD x_D k 0) * (nthD y_D i 0))) then
          bif fits (row.length + [Int.tmod (more + ((nthD x_D k 0) * (nthD y_D i 0))) 10000].length) 17592186044416 then
          bif inI64 (Int.tdiv (more + ((nthD x_D k 0) * (nthD y_D i 0))) 10000) then
          bif inI64 (k + 1) then
          K1 ((row ++ [Int.tmod (more + ((nthD x_D k 0) * (nthD y_D i 0))) 10000]), Int.tdiv (more + ((nthD x_D k 0) * (nthD y_D i 0))) 10000, k + 1)
          else none
          else none
          else none
          else none
          else none
          else none
          else none
        else
          bif fits (row.length + [Int.tmod more 10000].length) 17592186044416 then
          bif inI64 (Int.tdiv more 10000) then
          bif inI64 (k + 1) then
          K1 ((row ++ [Int.tmod more 10000]), Int.tdiv more 10000, k + 1)
          else none
          else none
          else none
      else
        (r1_up N sum_D row).bind fun (r : List Int) =>
        (r1_trim N false r).bind fun (r1 : T_N1) =>
        bif inI64 (i + 1) then
        K0 (i + 1, r1.1, r1.2.1)
        else none
theorem r1_Mul_l2 (N : Nat) (i : Int) (x_Neg : Bool) (x_D : List Int) (y_Neg : Bool) (y_D : List Int) (t4_Neg : Bool) (t4_D : List Int) (sum_Neg : Bool) (sum_D : List Int) (K0r : List TV → List TOb → Option T_N1) (n : Nat) (e : List Int × Int × Int) : iterF (r1_Mul_R2 N K0r) n ((r1_Mul_E2 i x_Neg x_D y_Neg y_D t4_Neg t4_D sum_Neg sum_D) e) ((r1_Mul_S2 i x_Neg x_D y_Neg y_D t4_Neg t4_D sum_Neg sum_D) e) = iter (r1_Mul_B2 N i x_Neg x_D y_Neg y_D t4_Neg t4_D sum_Neg sum_D (fun a => K0r (r1_Mul_E1 x_Neg x_D y_Neg y_D t4_Neg t4_D a) (r1_Mul_S1 x_Neg x_D y_Neg y_D t4_Neg t4_D a))) n e :=
  loop_iter (r1_Mul_E2 i x_Neg x_D y_Neg y_D t4_Neg t4_D sum_Neg sum_D) (r1_Mul_S2 i x_Neg x_D y_Neg y_D t4_Neg t4_D sum_Neg sum_D) (by intro K e; obtain ⟨row, more, k⟩ := e; kernel_rfl) n e
noncomputable def r1_Mul_R1 (N : Nat)  : (List TV → List TOb → Option T_N1) → List TV → List TOb → Option T_N1 := rawL DR r1_Mul_sc (r1_Mul_cf N) (lopB (blkB (seqR (seqL (seqR (seqR (bodyOf Try.f15))))))) r1_Mul_H0 (r1_Mul_H.loops.drop 1) (kBlk 0 (kSeq DR r1_Mul_sc (r1_Mul_cf N) (seqR (seqR (seqR (bodyOf Try.f15)))) (r1_Mul_H.loops.drop 2) (r1_Mul_fin N)))
def r1_Mul_B1t (N : Nat) (x_Neg : Bool) (x_D : List Int) (y_Neg : Bool) (y_D : List Int) (t4_Neg : Bool) (t4_D : List Int)  (l2 : Int → Bool → (List Int) → Bool → (List Int) → Bool → (List Int) → Bool → (List Int) → (List Int × Int × Int) → Option T_N1) (K0 : (Int × Bool × List Int) → Option T_N1) (e : Int × Bool × List Int) : Option T_N1 :=
  match e with
  | (i, sum_Neg, sum_D) =>
    bif decide (i < (y_D.length : Int)) then
      bif canMake 8 i i then
      l2 i x_Neg x_D y_Neg y_D t4_Neg t4_D sum_Neg sum_D ((List.replicate i.toNat 0), 0, 0)
      else none
    else
      (r1_trim N (!(x_Neg == y_Neg)) sum_D).bind fun (r2 : T_N1) =>
      some r2
def r1_Mul_B1 (N : Nat) (x_Neg : Bool) (x_D : List Int) (y_Neg : Bool) (y_D : List Int) (t4_Neg : Bool) (t4_D : List Int)  (K0 : (Int × Bool × List Int) → Option T_N1) (e : Int × Bool × List Int) : Option T_N1 := r1_Mul_B1t N x_Neg x_D y_Neg y_D t4_Neg t4_D  (fun (i : Int) (x_Neg : Bool) (x_D : List Int) (y_Neg : Bool) (y_D : List Int) (t4_Neg : Bool) (t4_D : List Int) (sum_Neg : Bool) (sum_D : List Int) (e : List Int × Int × Int) => iter (r1_Mul_B2 N i x_Neg x_D y_Neg y_D t4_Neg t4_D sum_Neg sum_D K0) N e) K0 e
theorem r1_Mul_l1 (N : Nat) (x_Neg : Bool) (x_D : List Int) (y_Neg : Bool) (y_D : List Int) (t4_Neg : Bool) (t4_D : List Int)  (n : Nat) (e : Int × Bool × List Int) : iterF (r1_Mul_R1 N ) n ((r1_Mul_E1 x_Neg x_D y_Neg y_D t4_Neg t4_D) e) ((r1_Mul_S1 x_Neg x_D y_Neg y_D t4_Neg t4_D) e) = iter (r1_Mul_B1 N x_Neg x_D y_Neg y_D t4_Neg t4_D ) n e :=
  loop_iter (r1_Mul_E1 x_Neg x_D y_Neg y_D t4_Neg t4_D) (r1_Mul_S1 x_Neg x_D y_Neg y_D t4_Neg t4_D) (by
    intro K e
    have h : (r1_Mul_R1 N ) K ((r1_Mul_E1 x_Neg x_D y_Neg y_D t4_Neg t4_D) e) ((r1_Mul_S1 x_Neg x_D y_Neg y_D t4_Neg t4_D) e) = r1_Mul_B1t N x_Neg x_D y_Neg y_D t4_Neg t4_D  (fun (i : Int) (x_Neg : Bool) (x_D : List Int) (y_Neg : Bool) (y_D : List Int) (t4_Neg : Bool) (t4_D : List Int) (sum_Neg : Bool) (sum_D : List Int) (e : List Int × Int × Int) => iterF (r1_Mul_R2 N K) N (r1_Mul_E2 i x_Neg x_D y_Neg y_D t4_Neg t4_D sum_Neg sum_D e) (r1_Mul_S2 i x_Neg x_D y_Neg y_D t4_Neg t4_D sum_Neg sum_D e)) (fun e => K ((r1_Mul_E1 x_Neg x_D y_Neg y_D t4_Neg t4_D) e) ((r1_Mul_S1 x_Neg x_D y_Neg y_D t4_Neg t4_D) e)) e := by obtain ⟨i, sum_Neg, sum_D⟩ := e; kernel_rfl
    rw [h]
    simp only [r1_Mul_B1, r1_Mul_l2] <;> rfl) n e
def r1_Mul_t (N : Nat) (x : T_N1) (y : T_N1) (l1 : Bool → (List Int) → Bool → (List Int) → Bool → (List Int) → (Int × Bool × List Int) → Option T_N1) : Option T_N1 :=
  l1 x.1 x.2.1 y.1 y.2.1 false [] (0, false, [])
def r1_Mul (N : Nat) (x : T_N1) (y : T_N1) : Option T_N1 := r1_Mul_t N x y (fun (x_Neg : Bool) (x_D : List Int) (y_Neg : Bool) (y_D : List Int) (t4_Neg : Bool) (t4_D : List Int) (e : Int × Bool × List Int) => iter (r1_Mul_B1 N x_Neg x_D y_Neg y_D t4_Neg t4_D) N e)
theorem r1_Mul_run (N : Nat) (x : T_N1) (y : T_N1) : callBody DR Try.prog N (r1_Mul_T N) r1_Mul_H Try.f15 (bodyOf Try.f15) (RT [t_N1]) (encA [t_N1, t_N1] (x, y, ())) [] (kPure [t_N1]) = r1_Mul N x y := by
  have h : callBody DR Try.prog N (r1_Mul_T N) r1_Mul_H Try.f15 (bodyOf Try.f15) (RT [t_N1]) (encA [t_N1, t_N1] (x, y, ())) [] (kPure [t_N1]) = r1_Mul_t N x y (fun (x_Neg : Bool) (x_D : List Int) (y_Neg : Bool) (y_D : List Int) (t4_Neg : Bool) (t4_D : List Int) (e : Int × Bool × List Int) => iterF (r1_Mul_R1 N ) N (r1_Mul_E1 x_Neg x_D y_Neg y_D t4_Neg t4_D e) (r1_Mul_S1 x_Neg x_D y_Neg y_D t4_Neg t4_D e)) := by kernel_rfl
  rw [h]
  simp only [r1_Mul, r1_Mul_l1] <;> rfl
def r1_Mul_ent (N : Nat) : Ent := specEnt [t_N1, t_N1] [t_N1] fun x => r1_Mul N x.1 x.2.1
theorem r1_Mul_sound (N : Nat) : EntSound Try.prog 15 (r1_Mul_ent N) := specEnt_sound (r1_Mul_Ts N) Try.func15 rfl (by kernel_rfl) fun x => r1_Mul_run N x.1 x.2.1
def r1_Quo_H0 : LH := ⟨[(2, .asis), (3, .asis), (4, .asis), (5, .asis), (6, .asis), (7, .asis), (8, .asis), (9, .asis), (10, .int .i64)], [], [.cells [.bool, .lst (.int .i64)], .cells [.bool, .lst (.int .i64)], .cells [.bool, .lst (.int .i64)], .cells [.bool, .lst (.int .i64)], .cells [.bool, .lst (.int .i64)], .cells [.bool, .lst (.int .i64)], .same, .cells [.bool, .lst (.int .i64)]]⟩
def r1_Quo_H1 : LH := ⟨[(2, .asis), (3, .asis), (4, .asis), (5, .asis), (6, .asis), (7, .asis), (8, .asis), (9, .asis), (10, .int .i64), (11, .int .i64), (12, .int .i64)], [], [.cells [.bool, .lst (.int .i64)], .cells [.bool, .lst (.int .i64)], .cells [.bool, .lst (.int .i64)], .cells [.bool, .lst (.int .i64)], .cells [.bool, .lst (.int .i64)], .cells [.bool, .lst (.int .i64)], .same, .cells [.bool, .lst (.int .i64)]]⟩
def r1_Quo_H : FH := ⟨[r1_Quo_H0, r1_Quo_H1], [23], [(1, ⟨9, 83, 2, [(6, .alloc 0), (7, .alloc 1), (8, .store true 4)]⟩), (7, ⟨8, 83, 0, []⟩), (11, ⟨5, 83, 0, []⟩), (15, ⟨5, 83, 0, []⟩), (16, ⟨11, 83, 0, []⟩)], [(16, 8)], false⟩
noncomputable def r1_Quo_T (N : Nat) : CallT := tab [(45, r1_trim_ent N), (6, r1_Of_ent N), (15, r1_Mul_ent N), (50, r1_Cmp_ent N), (14, r1_Sub_ent N)]
theorem r1_Quo_Ts (N : Nat) : CallSound Try.prog (r1_Quo_T N) := tab_cons (r1_trim_sound N) <| tab_cons (r1_Of_sound N) <| tab_cons (r1_Mul_sound N) <| tab_cons (r1_Cmp_sound N) <| tab_cons (r1_Sub_sound N) <| tab_nil _
noncomputable def r1_Quo_sc : Sc := ⟨Try.prog, r1_Quo_H.arrs, r1_Quo_H.heads, r1_Quo_H.frz, r1_Quo_H.wrap⟩
noncomputable def r1_Quo_cf (N : Nat) : Cfg := ⟨N, r1_Quo_T N, 0⟩
noncomputable def r1_Quo_fin (N : Nat) : Exit → List TV → List TOb → Option (T_N1 × T_N1 × Unit) := fin Try.prog 0 Try.f21.results.toList (kPure [t_N1, t_N1])
def r1_Quo_E1 (x_Neg : Bool) (x_D : List Int) (y_Neg : Bool) (y_D : List Int) (t4_Neg : Bool) (t4_D : List Int) (t5_Neg : Bool) (t5_D : List Int) (a_Neg : Bool) (a_D : List Int) (b_Neg : Bool) (b_D : List Int) (x : T_N1) (e : Int × List Int × Bool × List Int) : List TV := match e with
  | (i, q, r_Neg, r_D) => [.undef, .undef, .ref 0 0, .ref 1 0, .ref 2 0, .ref 3 0, .ref 4 0, .ref 5 0, .arr 6 ((x.2.1.length : Int).toNat), .ref 7 0, .int .i64 i, .undef, .undef, .undef, .undef, .undef, .undef, .undef, .undef, .undef, .undef, .undef, .undef, .undef, .undef, .undef, .undef, .undef, .undef, .undef, .undef, .undef, .undef, .undef, .undef, .undef, .undef, .undef, .undef, .undef, .undef, .undef, .undef, .undef, .undef, .undef, .undef, .undef, .undef, .undef, .undef, .undef, .undef, .undef, .undef, .undef, .undef, .undef, .undef, .undef, .undef, .undef, .undef, .undef, .undef, .undef, .undef, .undef, .undef, .undef, .undef, .undef, .undef, .undef, .undef, .undef, .undef, .undef, .undef, .undef, .undef, .undef, .undef]
def r1_Quo_S1 (x_Neg : Bool) (x_D : List Int) (y_Neg : Bool) (y_D : List Int) (t4_Neg : Bool) (t4_D : List Int) (t5_Neg : Bool) (t5_D : List Int) (a_Neg : Bool) (a_D : List Int) (b_Neg : Bool) (b_D : List Int) (x : T_N1) (e : Int × List Int × Bool × List Int) : List TOb := match e with
  | (i, q, r_Neg, r_D) => [.cells [.bool x_Neg, .tl (.int .i64) x_D .unk] 24 true, .cells [.bool y_Neg, .tl (.int .i64) y_D .unk] 24 true, .cells [.bool t4_Neg, .tl (.int .i64) t4_D .unk] 24 true, .cells [.bool t5_Neg, .tl (.int .i64) t5_D .unk] 24 true, .cells [.bool a_Neg, .tl (.int .i64) a_D .unk] 24 true, .cells [.bool b_Neg, .tl (.int .i64) b_D .unk] 24 true, .tarr (.int .i64) q 3 true, .cells [.bool r_Neg, .tl (.int .i64) r_D .unk] 24 true]
def r1_Quo_E2 (i : Int) (x_Neg : Bool) (x_D : List Int) (y_Neg : Bool) (y_D : List Int) (t4_Neg : Bool) (t4_D : List Int) (t5_Neg : Bool) (t5_D : List Int) (a_Neg : Bool) (a_D : List Int) (b_Neg : Bool) (b_D : List Int) (q : List Int) (r_Neg1 : Bool) (r_D1 : List Int) (x : T_N1) (e : Int × Int) : List TV := match e with
  | (low, high) => [.undef, .undef, .ref 0 0, .ref 1 0, .ref 2 0, .ref 3 0, .ref 4 0, .ref 5 0, .arr 6 ((x.2.1.length : Int).toNat), .ref 7 0, .int .i64 i, .int .i64 low, .int .i64 high, .undef, .undef, .undef, .undef, .undef, .undef, .undef, .undef, .undef, .undef, .undef, .undef, .undef, .undef, .undef, .undef, .undef, .undef, .undef, .undef, .undef, .undef, .undef, .undef, .undef, .undef, .undef, .undef, .undef, .undef, .undef, .undef, .undef, .undef, .undef, .undef, .undef, .undef, .undef, .undef, .undef, .undef, .undef, .undef, .undef, .undef, .undef, .undef, .undef, .undef, .undef, .undef, .undef, .undef, .undef, .undef, .undef, .undef, .undef, .undef, .undef, .undef, .undef, .undef, .undef, .undef, .undef, .undef, .undef, .undef]
def r1_Quo_S2 (i : Int) (x_Neg : Bool) (x_D : List Int) (y_Neg : Bool) (y_D : List Int) (t4_Neg : Bool) (t4_D : List Int) (t5_Neg : Bool) (t5_D : List Int) (a_Neg : Bool) (a_D : List Int) (b_Neg : Bool) (b_D : List Int) (q : List Int) (r_Neg1 : Bool) (r_D1 : List Int) (x : T_N1) (e : Int × Int) : List TOb := match e with
  | (low, high) => [.cells [.bool x_Neg, .tl (.int .i64) x_D .unk] 24 true, .cells [.bool y_Neg, .tl (.int .i64) y_D .unk] 24 true, .cells [.bool t4_Neg, .tl (.int .i64) t4_D .unk] 24 true, .cells [.bool t5_Neg, .tl (.int .i64) t5_D .unk] 24 true, .cells [.bool a_Neg, .tl (.int .i64) a_D .unk] 24 true, .cells [.bool b_Neg, .tl (.int .i64) b_D .unk] 24 true, .tarr (.int .i64) q 3 true, .cells [.bool r_Neg1, .tl (.int .i64) r_D1 .unk] 24 true]
noncomputable def r1_Quo_R2 (N : Nat) (K0r : List TV → List TOb → Option (T_N1 × T_N1 × Unit)) : (List TV → List TOb → Option (T_N1 × T_N1 × Unit)) → List TV → List TOb → Option (T_N1 × T_N1 × Unit) := rawL DR r1_Quo_sc (r1_Quo_cf N) (lopB (blkB (seqL (seqR (seqR (blkB (seqL (seqR (lopB (blkB (seqR (seqL (seqR (seqR (seqR (seqR (bodyOf Try.f21))))))))))))))))) r1_Quo_H1 (r1_Quo_H.loops.drop 2) (kBlk 2 (kSeq DR r1_Quo_sc (r1_Quo_cf N) (seqR (seqR (seqR (blkB (seqL (seqR (lopB (blkB (seqR (seqL (seqR (seqR (seqR (seqR (bodyOf Try.f21))))))))))))))) (r1_Quo_H.loops.drop 2) (kBlk 1 (kSeq DR r1_Quo_sc (r1_Quo_cf N) (seqR (seqR (lopB (blkB (seqR (seqL (seqR (seqR (seqR (seqR (bodyOf Try.f21))))))))))) (r1_Quo_H.loops.drop 2) (kLoop (r1_Quo_cf N) r1_Quo_H0 (kBlk 0 (kSeq DR r1_Quo_sc (r1_Quo_cf N) (seqR (seqR (seqR (seqR (seqR (bodyOf Try.f21)))))) (r1_Quo_H.loops.drop 2) (r1_Quo_fin N))) K0r)))))
def r1_Quo_B2 (N : Nat) (i : Int) (x_Neg : Bool) (x_D : List Int) (y_Neg : Bool) (y_D : List Int) (t4_Neg : Bool) (t4_D : List Int) (t5_Neg : Bool) (t5_D : List Int) (a_Neg : Bool) (a_D : List Int) (b_Neg : Bool) (b_D : List Int) (q : List Int) (r_Neg1 : Bool) (r_D1 : List Int) (x : T_N1) (K0 : (Int × List Int × Bool × List Int) → Option (T_N1 × T_N1 × Unit)) (K1 : (Int × Int) → Option (T_N1 × T_N1 × Unit)) (e : Int × Int) : Option (T_N1 × T_N1 × Unit) :=
  match e with
  | (low, high) =>
    bif decide (low < high) then
      bif inI64 (low + high) then
      bif inI64 ((low + high) + 1) then
      bif inI64 (Int.tdiv ((low + high) + 1) 2) then
      (r1_Of N (Int.tdiv ((low + high) + 1) 2)).bind fun (r1 : T_N1) =>
      (r1_Mul N r1 (b_Neg, b_D, ())).bind fun (r2 : T_N1) =>
      (r1_Cmp N r2 (r_Neg1, r_D1, ())).bind fun (r3 : Int) =>
      bif decide (r3 ≤ 0) then
        K1 (Int.tdiv ((low + high) + 1) 2, high)
      else
        bif inI64 ((Int.tdiv ((low + high) + 1) 2) - 1) then
        K1 (low, (Int.tdiv ((low + high) + 1) 2) - 1)
        else none
      else none
      else none
      else none
    else
      bif inR i ((x.2.1.length : Int).toNat) then
      bif inR i q.length then
      (r1_Of N low).bind fun (r4 : T_N1) =>
      (r1_Mul N r4 (b_Neg, b_D, ())).bind fun (r5 : T_N1) =>
      (r1_Sub N (r_Neg1, r_D1, ()) r5).bind fun (r6 : T_N1) =>
      bif inI64 (i - 1) then
      K0 (i - 1, (setD q i low), r6.1, r6.2.1)
      else none
      else none
      else none
theorem r1_Quo_l2 (N : Nat) (i : Int) (x_Neg : Bool) (x_D : List Int) (y_Neg : Bool) (y_D : List Int) (t4_Neg : Bool) (t4_D : List Int) (t5_Neg : Bool) (t5_D : List Int) (a_Neg : Bool) (a_D : List Int) (b_Neg : Bool) (b_D : List Int) (q : List Int) (r_Neg1 : Bool) (r_D1 : List Int) (x : T_N1) (K0r : List TV → List TOb → Option (T_N1 × T_N1 × Unit)) (n : Nat) (e : Int × Int) : iterF (r1_Quo_R2 N K0r) n ((r1_Quo_E2 i x_Neg x_D y_Neg y_D t4_Neg t4_D t5_Neg t5_D a_Neg a_D b_Neg b_D q r_Neg1 r_D1 x) e) ((r1_Quo_S2 i x_Neg x_D y_Neg y_D t4_Neg t4_D t5_Neg t5_D a_Neg a_D b_Neg b_D q r_Neg1 r_D1 x) e) = iter (r1_Quo_B2 N i x_Neg x_D y_Neg y_D t4_Neg t4_D t5_Neg t5_D a_Neg a_D b_Neg b_D q r_Neg1 r_D1 x (fun a => K0r (r1_Quo_E1 x_Neg x_D y_Neg y_D t4_Neg t4_D t5_Neg t5_D a_Neg a_D b_Neg b_D x a) (r1_Quo_S1 x_Neg x_D y_Neg y_D t4_Neg t4_D t5_Neg t5_D a_Neg a_D b_Neg b_D x a))) n e :=
  loop_iter (r1_Quo_E2 i x_Neg x_D y_Neg y_D t4_Neg t4_D t5_Neg t5_D a_Neg a_D b_Neg b_D q r_Neg1 r_D1 x) (r1_Quo_S2 i x_Neg x_D y_Neg y_D t4_Neg t4_D t5_Neg t5_D a_Neg a_D b_Neg b_D q r_Neg1 r_D1 x) (by intro K e; obtain ⟨low, high⟩ := e; kernel_rfl) n e
noncomputable def r1_Quo_R1 (N : Nat)  : (List TV → List TOb → Option (T_N1 × T_N1 × Unit)) → List TV → List TOb → Option (T_N1 × T_N1 × Unit) := rawL DR r1_Quo_sc (r1_Quo_cf N) (lopB (blkB (seqR (seqL (seqR (seqR (seqR (seqR (bodyOf Try.f21))))))))) r1_Quo_H0 (r1_Quo_H.loops.drop 1) (kBlk 0 (kSeq DR r1_Quo_sc (r1_Quo_cf N) (seqR (seqR (seqR (seqR (seqR (bodyOf Try.f21)))))) (r1_Quo_H.loops.drop 2) (r1_Quo_fin N)))
def r1_Quo_B1t (N : Nat) (x_Neg : Bool) (x_D : List Int) (y_Neg : Bool) (y_D : List Int) (t4_Neg : Bool) (t4_D : List Int) (t5_Neg : Bool) (t5_D : List Int) (a_Neg : Bool) (a_D : List Int) (b_Neg : Bool) (b_D : List Int) (x : T_N1)  (l2 : Int → Bool → (List Int) → Bool → (List Int) → Bool → (List Int) → Bool → (List Int) → Bool → (List Int) → Bool → (List Int) → (List Int) → Bool → (List Int) → T_N1 → (Int × Int) → Option (T_N1 × T_N1 × Unit)) (K0 : (Int × List Int × Bool × List Int) → Option (T_N1 × T_N1 × Unit)) (e : Int × List Int × Bool × List Int) : Option (T_N1 × T_N1 × Unit) :=
  match e with
  | (i, q, r_Neg, r_D) =>
    bif decide (i ≥ 0) then
      bif inR i a_D.length then
      bif fits ([(nthD a_D i 0)].length + r_D.length) 17592186044416 then
      (r1_trim N false ([(nthD a_D i 0)] ++ r_D)).bind fun (r : T_N1) =>
      l2 i x_Neg x_D y_Neg y_D t4_Neg t4_D t5_Neg t5_D a_Neg a_D b_Neg b_D q r.1 r.2.1 x (0, 9999)
      else none
      else none
    else
      bif Nat.beq ((x.2.1.length : Int).toNat) q.length then
      (r1_trim N (!(x_Neg == y_Neg)) q).bind fun (r7 : T_N1) =>
      (r1_trim N x_Neg r_D).bind fun (r8 : T_N1) =>
      some (r7, r8, ())
      else none
def r1_Quo_B1 (N : Nat) (x_Neg : Bool) (x_D : List Int) (y_Neg : Bool) (y_D : List Int) (t4_Neg : Bool) (t4_D : List Int) (t5_Neg : Bool) (t5_D : List Int) (a_Neg : Bool) (a_D : List Int) (b_Neg : Bool) (b_D : List Int) (x : T_N1)  (K0 : (Int × List Int × Bool × List Int) → Option (T_N1 × T_N1 × Unit)) (e : Int × List Int × Bool × List Int) : Option (T_N1 × T_N1 × Unit) := r1_Quo_B1t N x_Neg x_D y_Neg y_D t4_Neg t4_D t5_Neg t5_D a_Neg a_D b_Neg b_D x  (fun (i : Int) (x_Neg : Bool) (x_D : List Int) (y_Neg : Bool) (y_D : List Int) (t4_Neg : Bool) (t4_D : List Int) (t5_Neg : Bool) (t5_D : List Int) (a_Neg : Bool) (a_D : List Int) (b_Neg : Bool) (b_D : List Int) (q : List Int) (r_Neg1 : Bool) (r_D1 : List Int) (x : T_N1) (e : Int × Int) => iter (r1_Quo_B2 N i x_Neg x_D y_Neg y_D t4_Neg t4_D t5_Neg t5_D a_Neg a_D b_Neg b_D q r_Neg1 r_D1 x K0) N e) K0 e
theorem r1_Quo_l1 (N : Nat) (x_Neg : Bool) (x_D : List Int) (y_Neg : Bool) (y_D : List Int) (t4_Neg : Bool) (t4_D : List Int) (t5_Neg : Bool) (t5_D : List Int) (a_Neg : Bool) (a_D : List Int) (b_Neg : Bool) (b_D : List Int) (x : T_N1)  (n : Nat) (e : Int × List Int × Bool × List Int) : iterF (r1_Quo_R1 N ) n ((r1_Quo_E1 x_Neg x_D y_Neg y_D t4_Neg t4_D t5_Neg t5_D a_Neg a_D b_Neg b_D x) e) ((r1_Quo_S1 x_Neg x_D y_Neg y_D t4_Neg t4_D t5_Neg t5_D a_Neg a_D b_Neg b_D x) e) = iter (r1_Quo_B1 N x_Neg x_D y_Neg y_D t4_Neg t4_D t5_Neg t5_D a_Neg a_D b_Neg b_D x ) n e :=
  loop_iter (r1_Quo_E1 x_Neg x_D y_Neg y_D t4_Neg t4_D t5_Neg t5_D a_Neg a_D b_Neg b_D x) (r1_Quo_S1 x_Neg x_D y_Neg y_D t4_Neg t4_D t5_Neg t5_D a_Neg a_D b_Neg b_D x) (by
    intro K e
    have h : (r1_Quo_R1 N ) K ((r1_Quo_E1 x_Neg x_D y_Neg y_D t4_Neg t4_D t5_Neg t5_D a_Neg a_D b_Neg b_D x) e) ((r1_Quo_S1 x_Neg x_D y_Neg y_D t4_Neg t4_D t5_Neg t5_D a_Neg a_D b_Neg b_D x) e) = r1_Quo_B1t N x_Neg x_D y_Neg y_D t4_Neg t4_D t5_Neg t5_D a_Neg a_D b_Neg b_D x  (fun (i : Int) (x_Neg : Bool) (x_D : List Int) (y_Neg : Bool) (y_D : List Int) (t4_Neg : Bool) (t4_D : List Int) (t5_Neg : Bool) (t5_D : List Int) (a_Neg : Bool) (a_D : List Int) (b_Neg : Bool) (b_D : List Int) (q : List Int) (r_Neg1 : Bool) (r_D1 : List Int) (x : T_N1) (e : Int × Int) => iterF (r1_Quo_R2 N K) N (r1_Quo_E2 i x_Neg x_D y_Neg y_D t4_Neg t4_D t5_Neg t5_D a_Neg a_D b_Neg b_D q r_Neg1 r_D1 x e) (r1_Quo_S2 i x_Neg x_D y_Neg y_D t4_Neg t4_D t5_Neg t5_D a_Neg a_D b_Neg b_D q r_Neg1 r_D1 x e)) (fun e => K ((r1_Quo_E1 x_Neg x_D y_Neg y_D t4_Neg t4_D t5_Neg t5_D a_Neg a_D b_Neg b_D x) e) ((r1_Quo_S1 x_Neg x_D y_Neg y_D t4_Neg t4_D t5_Neg t5_D a_Neg a_D b_Neg b_D x) e)) e := by obtain ⟨i, q, r_Neg, r_D⟩ := e; kernel_rfl
    rw [h]
    simp only [r1_Quo_B1, r1_Quo_l2] <;> rfl) n e
def r1_Quo_t (N : Nat) (x : T_N1) (y : T_N1) (l1 : Bool → (List Int) → Bool → (List Int) → Bool → (List Int) → Bool → (List Int) → Bool → (List Int) → Bool → (List Int) → T_N1 → (Int × List Int × Bool × List Int) → Option (T_N1 × T_N1 × Unit)) : Option (T_N1 × T_N1 × Unit) :=
  bif canMake 8 (x.2.1.length : Int) (x.2.1.length : Int) then
  bif inI64 ((x.2.1.length : Int) - 1) then
  l1 x.1 x.2.1 y.1 y.2.1 false [] false [] false x.2.1 false y.2.1 x ((x.2.1.length : Int) - 1, (List.replicate (x.2.1.length : Int).toNat 0), false, [])
  else none
  else none
def r1_Quo (N : Nat) (x : T_N1) (y : T_N1) : Option (T_N1 × T_N1 × Unit) := r1_Quo_t N x y (fun (x_Neg : Bool) (x_D : List Int) (y_Neg : Bool) (y_D : List Int) (t4_Neg : Bool) (t4_D : List Int) (t5_Neg : Bool) (t5_D : List Int) (a_Neg : Bool) (a_D : List Int) (b_Neg : Bool) (b_D : List Int) (x : T_N1) (e : Int × List Int × Bool × List Int) => iter (r1_Quo_B1 N x_Neg x_D y_Neg y_D t4_Neg t4_D t5_Neg t5_D a_Neg a_D b_Neg b_D x) N e)
theorem r1_Quo_run (N : Nat) (x : T_N1) (y : T_N1) : callBody DR Try.prog N (r1_Quo_T N) r1_Quo_H Try.f21 (bodyOf Try.f21) (RT [t_N1, t_N1]) (encA [t_N1, t_N1] (x, y, ())) [] (kPure [t_N1, t_N1]) = r1_Quo N x y := by
  have h : callBody DR Try.prog N (r1_Quo_T N) r1_Quo_H Try.f21 (bodyOf Try.f21) (RT [t_N1, t_N1]) (encA [t_N1, t_N1] (x, y, ())) [] (kPure [t_N1, t_N1]) = r1_Quo_t N x y (fun (x_Neg : Bool) (x_D : List Int) (y_Neg : Bool) (y_D : List Int) (t4_Neg : Bool) (t4_D : List Int) (t5_Neg : Bool) (t5_D : List Int) (a_Neg : Bool) (a_D : List Int) (b_Neg : Bool) (b_D : List Int) (x : T_N1) (e : Int × List Int × Bool × List Int) => iterF (r1_Quo_R1 N ) N (r1_Quo_E1 x_Neg x_D y_Neg y_D t4_Neg t4_D t5_Neg t5_D a_Neg a_D b_Neg b_D x e) (r1_Quo_S1 x_Neg x_D y_Neg y_D t4_Neg t4_D t5_Neg t5_D a_Neg a_D b_Neg b_D x e)) := by kernel_rfl
  rw [h]
  simp only [r1_Quo, r1_Quo_l1] <;> rfl
def r1_Quo_ent (N : Nat) : Ent := specEnt [t_N1, t_N1] [t_N1, t_N1] fun x => r1_Quo N x.1 x.2.1
theorem r1_Quo_sound (N : Nat) : EntSound Try.prog 21 (r1_Quo_ent N) := specEnt_sound (r1_Quo_Ts N) Try.func21 rfl (by kernel_rfl) fun x => r1_Quo_run N x.1 x.2.1
def r1_Even_H : FH := ⟨[], [], [(8, ⟨2, 61, 0, []⟩), (9, ⟨2, 61, 0, []⟩)], [], false⟩
noncomputable def r1_Even_T (N : Nat) : CallT := tab [(21, r1_Quo_ent N), (46, r1_up_ent N), (47, r1_by_ent N), (6, r1_Of_ent N), (14, r1_Sub_ent N), (13, r1_Add_ent N)]
theorem r1_Even_Ts (N : Nat) : CallSound Try.prog (r1_Even_T N) := tab_cons (r1_Quo_sound N) <| tab_cons (r1_up_sound N) <| tab_cons (r1_by_sound N) <| tab_cons (r1_Of_sound N) <| tab_cons (r1_Sub_sound N) <| tab_cons (r1_Add_sound N) <| tab_nil _
noncomputable def r1_Even_sc : Sc := ⟨Try.prog, r1_Even_H.arrs, r1_Even_H.heads, r1_Even_H.frz, r1_Even_H.wrap⟩
noncomputable def r1_Even_cf (N : Nat) : Cfg := ⟨N, r1_Even_T N, 0⟩
def r1_Even (N : Nat) (x : T_N1) (y : T_N1) : Option T_N1 :=
  (r1_Quo N x y).bind fun (r : T_N1 × T_N1 × Unit) =>
  (r1_up N r.2.1.2.1 r.2.1.2.1).bind fun (r1 : List Int) =>
  (r1_by N r1 y.2.1).bind fun (r2 : Int) =>
  bif decide ((r.1.2.1.length : Int) > 0) then
    bif inR 0 r.1.2.1.length then
    bif decide (r2 < 0) then
      some r.1
    else
      bif (r2 == 0) then
        bif (!((Int.tmod (nthD r.1.2.1 0 0) 2) == 1)) then
          some r.1
        else
          bif (!(x.1 == y.1)) then
            (r1_Of N 1).bind fun (r3 : T_N1) =>
            (r1_Sub N r.1 r3).bind fun (r4 : T_N1) =>
            some r4
          else
            (r1_Of N 1).bind fun (r5 : T_N1) =>
            (r1_Add N r.1 r5).bind fun (r6 : T_N1) =>
            some r6
      else
        bif (!(x.1 == y.1)) then
          (r1_Of N 1).bind fun (r7 : T_N1) =>
          (r1_Sub N r.1 r7).bind fun (r8 : T_N1) =>
          some r8
        else
          (r1_Of N 1).bind fun (r9 : T_N1) =>
          (r1_Add N r.1 r9).bind fun (r10 : T_N1) =>
          some r10
    else none
  else
    bif decide (r2 < 0) then
      some r.1
    else
      bif (r2 == 0) then
        some r.1
      else
        bif (!(x.1 == y.1)) then
          (r1_Of N 1).bind fun (r11 : T_N1) =>
          (r1_Sub N r.1 r11).bind fun (r12 : T_N1) =>
          some r12
        else
          (r1_Of N 1).bind fun (r13 : T_N1) =>
          (r1_Add N r.1 r13).bind fun (r14 : T_N1) =>
          some r14
theorem r1_Even_run (N : Nat) (x : T_N1) (y : T_N1) : callBody DR Try.prog N (r1_Even_T N) r1_Even_H Try.f16 (bodyOf Try.f16) (RT [t_N1]) (encA [t_N1, t_N1] (x, y, ())) [] (kPure [t_N1]) = r1_Even N x y := by kernel_rfl
def r1_Even_ent (N : Nat) : Ent := specEnt [t_N1, t_N1] [t_N1] fun x => r1_Even N x.1 x.2.1
theorem r1_Even_sound (N : Nat) : EntSound Try.prog 16 (r1_Even_ent N) := specEnt_sound (r1_Even_Ts N) Try.func16 rfl (by kernel_rfl) fun x => r1_Even_run N x.1 x.2.1
def num_Quo_H : FH := ⟨[], [], [], [], false⟩
noncomputable def num_Quo_T (N : Nat) : CallT := tab [(41, num_size_ent N), (42, num_signed_ent N)]
theorem num_Quo_Ts (N : Nat) : CallSound Try.prog (num_Quo_T N) := tab_cons (num_size_sound N) <| tab_cons (num_signed_sound N) <| tab_nil _
noncomputable def num_Quo_sc : Sc := ⟨Try.prog, num_Quo_H.arrs, num_Quo_H.heads, num_Quo_H.frz, num_Quo_H.wrap⟩
noncomputable def num_Quo_cf (N : Nat) : Cfg := ⟨N, num_Quo_T N, 0⟩
def num_Quo (N : Nat) (a : Int) (b : Int) : Option (Int × Int × Unit) :=
  bif (b == 0) then
    some (0, 10, ())
  else
    (num_size N a).bind fun (r : Int) =>
    (num_size N b).bind fun (r1 : Int) =>
    bif (decide (r1 ≠ 0) && true) then
    (num_signed N (!((decide (a < 0)) == (decide (b < 0)))) 0 (IntKind.u64.wrap (Int.tdiv r r1))).bind fun (r2 : Int × Int × Unit) =>
    some r2
    else none
theorem num_Quo_run (N : Nat) (a : Int) (b : Int) : callBody DR Try.prog N (num_Quo_T N) num_Quo_H Try.f17 (bodyOf Try.f17) (RT [(.int .i64), (.int .i64)]) (encA [(.int .i64), (.int .i64)] (a, b, ())) [] (kPure [(.int .i64), (.int .i64)]) = num_Quo N a b := by kernel_rfl
def num_Quo_ent (N : Nat) : Ent := specEnt [(.int .i64), (.int .i64)] [(.int .i64), (.int .i64)] fun x => num_Quo N x.1 x.2.1
theorem num_Quo_sound (N : Nat) : EntSound Try.prog 17 (num_Quo_ent N) := specEnt_sound (num_Quo_Ts N) Try.func17 rfl (by kernel_rfl) fun x => num_Quo_run N x.1 x.2.1
def num_Mod_H : FH := ⟨[], [], [], [], false⟩
noncomputable def num_Mod_T (N : Nat) : CallT := tab [(41, num_size_ent N), (42, num_signed_ent N)]
theorem num_Mod_Ts (N : Nat) : CallSound Try.prog (num_Mod_T N) := tab_cons (num_size_sound N) <| tab_cons (num_signed_sound N) <| tab_nil _
noncomputable def num_Mod_sc : Sc := ⟨Try.prog, num_Mod_H.arrs, num_Mod_H.heads, num_Mod_H.frz, num_Mod_H.wrap⟩
noncomputable def num_Mod_cf (N : Nat) : Cfg := ⟨N, num_Mod_T N, 0⟩
def num_Mod (N : Nat) (a : Int) (b : Int) : Option (Int × Int × Unit) :=
  bif (b == 0) then
    some (0, 10, ())
  else
    (num_size N a).bind fun (r : Int) =>
    (num_size N b).bind fun (r1 : Int) =>
    bif decide (r1 ≠ 0) then
    (num_signed N (decide (a < 0)) 0 (Int.tmod r r1)).bind fun (r2 : Int × Int × Unit) =>
    some r2
    else none
theorem num_Mod_run (N : Nat) (a : Int) (b : Int) : callBody DR Try.prog N (num_Mod_T N) num_Mod_H Try.f18 (bodyOf Try.f18) (RT [(.int .i64), (.int .i64)]) (encA [(.int .i64), (.int .i64)] (a, b, ())) [] (kPure [(.int .i64), (.int .i64)]) = num_Mod N a b := by kernel_rfl
def num_Mod_ent (N : Nat) : Ent := specEnt [(.int .i64), (.int .i64)] [(.int .i64), (.int .i64)] fun x => num_Mod N x.1 x.2.1
theorem num_Mod_sound (N : Nat) : EntSound Try.prog 18 (num_Mod_ent N) := specEnt_sound (num_Mod_Ts N) Try.func18 rfl (by kernel_rfl) fun x => num_Mod_run N x.1 x.2.1
def num_DivDec_H : FH := ⟨[], [], [], [], false⟩
noncomputable def num_DivDec_T (N : Nat) : CallT := tab [(43, num_over_ent N)]
theorem num_DivDec_Ts (N : Nat) : CallSound Try.prog (num_DivDec_T N) := tab_cons (num_over_sound N) <| tab_nil _
noncomputable def num_DivDec_sc : Sc := ⟨Try.prog, num_DivDec_H.arrs, num_DivDec_H.heads, num_DivDec_H.frz, num_DivDec_H.wrap⟩
noncomputable def num_DivDec_cf (N : Nat) : Cfg := ⟨N, num_DivDec_T N, 0⟩
def num_DivDec (N : Nat) (a : Int) (b : Int) : Option (Int × Int × Unit) :=
  bif (b == 0) then
    some (0, 10, ())
  else
    (num_over N a 10000 b).bind fun (r : Int × Int × Unit) =>
    some r
theorem num_DivDec_run (N : Nat) (a : Int) (b : Int) : callBody DR Try.prog N (num_DivDec_T N) num_DivDec_H Try.f19 (bodyOf Try.f19) (RT [(.int .i64), (.int .i64)]) (encA [(.int .i64), (.int .i64)] (a, b, ())) [] (kPure [(.int .i64), (.int .i64)]) = num_DivDec N a b := by kernel_rfl
def num_DivDec_ent (N : Nat) : Ent := specEnt [(.int .i64), (.int .i64)] [(.int .i64), (.int .i64)] fun x => num_DivDec N x.1 x.2.1
theorem num_DivDec_sound (N : Nat) : EntSound Try.prog 19 (num_DivDec_ent N) := specEnt_sound (num_DivDec_Ts N) Try.func19 rfl (by kernel_rfl) fun x => num_DivDec_run N x.1 x.2.1
def w1_known_H : FH := ⟨[], [], [], [], false⟩
noncomputable def w1_known_T (N : Nat) : CallT := tab [(17, num_Quo_ent N), (18, num_Mod_ent N), (11, num_MulDec_ent N), (19, num_DivDec_ent N)]
theorem w1_known_Ts (N : Nat) : CallSound Try.prog (w1_known_T N) := tab_cons (num_Quo_sound N) <| tab_cons (num_Mod_sound N) <| tab_cons (num_MulDec_sound N) <| tab_cons (num_DivDec_sound N) <| tab_nil _
noncomputable def w1_known_sc : Sc := ⟨Try.prog, w1_known_H.arrs, w1_known_H.heads, w1_known_H.frz, w1_known_H.wrap⟩
noncomputable def w1_known_cf (N : Nat) : Cfg := ⟨N, w1_known_T N, 0⟩
def w1_known (N : Nat)  : Option Bool :=
  (num_Quo N (-7) 2).bind fun (r : Int × Int × Unit) =>
  (num_Mod N (-7) 2).bind fun (r1 : Int × Int × Unit) =>
  (num_MulDec N 15000 1).bind fun (r2 : Int × Int × Unit) =>
  (num_DivDec N 10000 30000).bind fun (r3 : Int × Int × Unit) =>
  (num_Quo N (-9223372036854775808) (-1)).bind fun (r4 : Int × Int × Unit) =>
  bif (r.1 == (-3)) then
    bif (r1.1 == (-1)) then
      bif (r2.1 == 2) then
        bif (r3.1 == 3333) then
          bif (r.2.1 == 0) then
            bif (r1.2.1 == 0) then
              bif (r2.2.1 == 0) then
                bif (r3.2.1 == 0) then
                  some (r4.2.1 == 9)
                else
                  some false
              else
                some false
            else
              some false
          else
            some false
        else
          some false
      else
        some false
    else
      some false
  else
    some false
theorem w1_known_run (N : Nat)  : callBody DR Try.prog N (w1_known_T N) w1_known_H Try.f20 (bodyOf Try.f20) (RT [.bool]) (encA [] (())) [] (kPure [.bool]) = w1_known N  := by kernel_rfl
def w1_known_ent (N : Nat) : Ent := specEnt [] [.bool] fun x => w1_known N 
theorem w1_known_sound (N : Nat) : EntSound Try.prog 20 (w1_known_ent N) := specEnt_sound (w1_known_Ts N) Try.func20 rfl (by kernel_rfl) fun x => w1_known_run N 
def w1_NumDoes_H : FH := ⟨[], [], [(8, ⟨42, 179, 0, []⟩), (16, ⟨18, 179, 0, []⟩)], [], false⟩
noncomputable def w1_NumDoes_T (N : Nat) : CallT := tab [(6, r1_Of_ent N), (7, num_Add_ent N), (8, num_Sub_ent N), (9, num_Mul_ent N), (10, num_Scale_ent N), (11, num_MulDec_ent N), (13, r1_Add_ent N), (12, w1_told_ent N), (14, r1_Sub_ent N), (15, r1_Mul_ent N), (16, r1_Even_ent N), (17, num_Quo_ent N), (18, num_Mod_ent N), (19, num_DivDec_ent N), (20, w1_known_ent N), (21, r1_Quo_ent N)]
theorem w1_NumDoes_Ts (N : Nat) : CallSound Try.prog (w1_NumDoes_T N) := tab_cons (r1_Of_sound N) <| tab_cons (num_Add_sound N) <| tab_cons (num_Sub_sound N) <| tab_cons (num_Mul_sound N) <| tab_cons (num_Scale_sound N) <| tab_cons (num_MulDec_sound N) <| tab_cons (r1_Add_sound N) <| tab_cons (w1_told_sound N) <| tab_cons (r1_Sub_sound N) <| tab_cons (r1_Mul_sound N) <| tab_cons (r1_Even_sound N) <| tab_cons (num_Quo_sound N) <| tab_cons (num_Mod_sound N) <| tab_cons (num_DivDec_sound N) <| tab_cons (w1_known_sound N) <| tab_cons (r1_Quo_sound N) <| tab_nil _
noncomputable def w1_NumDoes_sc : Sc := ⟨Try.prog, w1_NumDoes_H.arrs, w1_NumDoes_H.heads, w1_NumDoes_H.frz, w1_NumDoes_H.wrap⟩
noncomputable def w1_NumDoes_cf (N : Nat) : Cfg := ⟨N, w1_NumDoes_T N, 0⟩
def w1_NumDoes (N : Nat) (a : Int) (b : Int) : Option Bool :=
  (r1_Of N a).bind fun (r : T_N1) =>
  (r1_Of N b).bind fun (r1 : T_N1) =>
  (r1_Of N 10000).bind fun (r2 : T_N1) =>
  (num_Add N a b).bind fun (r3 : Int × Int × Unit) =>
  (num_Sub N a b).bind fun (r4 : Int × Int × Unit) =>
  (num_Mul N a b).bind fun (r5 : Int × Int × Unit) =>
  (num_Scale N a).bind fun (r6 : Int × Int × Unit) =>
  (num_MulDec N a b).bind fun (r7 : Int × Int × Unit) =>
  (r1_Add N r r1).bind fun (r8 : T_N1) =>
  (w1_told N r3.1 r3.2.1 r8).bind fun (r9 : Bool) =>
  bif (!r9) then
    some false
  else
    (r1_Sub N r r1).bind fun (r10 : T_N1) =>
    (w1_told N r4.1 r4.2.1 r10).bind fun (r11 : Bool) =>
    bif (!r11) then
      some false
    else
      (r1_Mul N r r1).bind fun (r12 : T_N1) =>
      (w1_told N r5.1 r5.2.1 r12).bind fun (r13 : Bool) =>
      bif (!r13) then
        some false
      else
        (r1_Mul N r r2).bind fun (r14 : T_N1) =>
        (w1_told N r6.1 r6.2.1 r14).bind fun (r15 : Bool) =>
        bif (!r15) then
          some false
        else
          (r1_Mul N r r1).bind fun (r16 : T_N1) =>
          (r1_Even N r16 r2).bind fun (r17 : T_N1) =>
          (w1_told N r7.1 r7.2.1 r17).bind fun (r18 : Bool) =>
          bif (!r18) then
            some false
          else
            (num_Quo N a b).bind fun (r19 : Int × Int × Unit) =>
            (num_Mod N a b).bind fun (r20 : Int × Int × Unit) =>
            (num_DivDec N a b).bind fun (r21 : Int × Int × Unit) =>
            bif (b == 0) then
              bif (r19.1 == 0) then
                bif (r20.1 == 0) then
                  bif (r21.1 == 0) then
                    bif (r19.2.1 == 10) then
                      bif (r20.2.1 == 10) then
                        bif (r21.2.1 == 10) then
                          (w1_known N).bind fun (r22 : Bool) =>
                          some r22
                        else
                          some false
                      else
                        some false
                    else
                      some false
                  else
                    some false
                else
                  some false
              else
                some false
            else
              (r1_Quo N r r1).bind fun (r23 : T_N1 × T_N1 × Unit) =>
              (w1_told N r19.1 r19.2.1 r23.1).bind fun (r24 : Bool) =>
              bif r24 then
                (w1_told N r20.1 r20.2.1 r23.2.1).bind fun (r25 : Bool) =>
                bif r25 then
                  (r1_Mul N r r2).bind fun (r26 : T_N1) =>
                  (r1_Even N r26 r1).bind fun (r27 : T_N1) =>
                  (w1_told N r21.1 r21.2.1 r27).bind fun (r28 : Bool) =>
                  bif r28 then
                    (w1_known N).bind fun (r29 : Bool) =>
                    some r29
                  else
                    some false
                else
                  some false
              else
                some false
theorem w1_NumDoes_run (N : Nat) (a : Int) (b : Int) : callBody DR Try.prog N (w1_NumDoes_T N) w1_NumDoes_H Try.f3 (bodyOf Try.f3) (RT [.bool]) (encA [(.int .i64), (.int .i64)] (a, b, ())) [] (kPure [.bool]) = w1_NumDoes N a b := by kernel_rfl
def w1_NumDoes_ent (N : Nat) : Ent := specEnt [(.int .i64), (.int .i64)] [.bool] fun x => w1_NumDoes N x.1 x.2.1
theorem w1_NumDoes_sound (N : Nat) : EntSound Try.prog 3 (w1_NumDoes_ent N) := specEnt_sound (w1_NumDoes_Ts N) Try.func3 rfl (by kernel_rfl) fun x => w1_NumDoes_run N x.1 x.2.1
end Go.Proofs.Ytgicljncknbgcaa.Abs
