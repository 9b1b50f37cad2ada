/-
  number: the library's tables, powers of ten, what is no number.
-/
import Derived.Test.YticahefindlmeaaGreatDoorNuG
import Derived.Lib.LaidTab
import Derived.Laws.FloatArith
import Derived.Laws.BitsAllLaws
namespace Go.Proofs.YticahefindlmeaaGreatDoor.Nu
open Go.RowKit

theorem ext_of_below {w w' : World} (h : Below w.heap.size w w') : Ext [] w w' := ⟨h.os, h.tape, h.output, h.size, fun k hk _ => h.block k hk⟩
theorem var_ext {P : Program} {w w' : World} {name : String} {cs : Array Value} (h : w.var? P name = some cs) (hx : Ext [] w w') : w'.var? P name = some cs := by
  unfold World.var? at h ⊢
  cases hg : P.globalNamed name with
  | none => rw [hg] at h; cases h
  | some g =>
    rw [hg] at h
    simp only [Option.bind_some] at h ⊢
    cases hb : w.heap[g]? with
    | none => rw [hb] at h; cases h
    | some o =>
      rw [hb] at h
      rw [hx.keep hb (by simp)]
      exact h
/-- 10^k as a double, for the few that are asked -/
def tenW : List Nat := [4607182418800017408, 4621819117588971520, 4636737291354636288, 4652007308841189376, 4666723172467343360, 4681608360884174848, 4696837146684686336, 4711630319722168320, 4726483295884279808, 4741671816366391296]
/-- what the walks ask of the tables -/
structure Tabs (w : World) : Prop where
  pos : w.cell? ⟨1, 0, none⟩ = some (.float .f64 4607182418800017408)
  tens : ∀ k, k < 10 → w.cell? ⟨2, k, none⟩ = some (.float .f64 (tenW.getD k 0))
  pow : Lib.TabIs Tryz.prog w "internal/strconv.uint64pow10" .u64 Lib.pow10Tab
theorem Tabs.ext {w w' : World} (h : Tabs w) (hx : Ext [] w w') : Tabs w' :=
  ⟨hx.cell h.pos, fun k hk => hx.cell (h.tens k hk), var_ext h.pow hx⟩
theorem ten_mul : ∀ k, k < 10 → FloatKind.f64.format.mul 4607182418800017408 (tenW.getD k 0) = some (tenW.getD k 0) := by decide +kernel
set_option maxRecDepth 100000 in
set_option maxHeartbeats 2000000 in
theorem pow10_walk (n : Nat) (hn : n < 10) (w : World) (hw : Tabs w) :
    Calls Tryz.prog 42 #[.int .i64 n] w fun e w' => e = .returned (.float .f64 (tenW.getD n 0)) ∧ Ext [] w w' := by
  have c1 : ∀ y : Ex w, y.w.cell? ⟨1, 0, none⟩ = some (.float .f64 4607182418800017408) := fun y => y.cell hw.pos
  have c2 : ∀ y : Ex w, y.w.cell? ⟨2, n, none⟩ = some (.float .f64 (tenW.getD n 0)) := fun y => y.cell (hw.tens n hn)
  have hm := fun w => run_float_arith (P := Tryz.prog) w .mul 32 .f64 4607182418800017408 (tenW.getD n 0) (tenW.getD n 0) (ten_mul n hn)
  generalize tenW.getD n 0 = T at *
  have n0 : (0 : Int) ≤ (n : Int) := by omega
  have n1 : (n : Int) ≤ 308 := by omega
  have n2 : (n : Int) / 32 = 0 := by omega
  have n3 : (n : Int) % 32 = (n : Int) := by omega
  have n4 : (n : Int) < 32 := by omega
  go_enter Tryz.func42, Tryz.ntmps42
  go_wp2_with fail
  refine wp_region_ext (by kernel_rfl) (by kernel_rfl) ?_
  repeat (go_big_quiet_step (fail))
  refine wpQuiet_nil ?_
  rintro _ ⟨y, rfl⟩
  have HX := Lib.hid y.ext
  go_wp2_with fail
  go_ret
  exact ⟨rfl, HX.out⟩
set_option maxRecDepth 100000 in
set_option maxHeartbeats 2000000 in
theorem ten_walk (n : Nat) (hn : n < 10) (w : World) (hw : Tabs w) :
    Calls Tryz.prog 24 #[.int .i64 n] w fun e w' => e = .returned (.float .f64 (tenW.getD n 0)) ∧ Ext [] w w' := by
  have H := Lib.hid (pow10_walk n hn w hw)
  go_enter Tryz.func24, Tryz.ntmps24
  go_wp2_with fail
  refine H.out.mono ?_
  rintro e w1 ⟨rfl, hx⟩
  have HX := Lib.hid hx
  clear hx
  go_wp2_with fail
  go_ret
  exact ⟨rfl, HX.out⟩
set_option maxRecDepth 100000 in
set_option maxHeartbeats 2000000 in
theorem isnan_walk (x : Nat) (r : Bool) (h : (FloatKind.f64.format.order x x != some Ordering.eq) = r) (w : World) :
    Calls Tryz.prog 25 #[.float .f64 x] w fun e w' => e = .returned (.bool r) ∧ w = w' := by
  go_enter Tryz.func25, Tryz.ntmps25
  go_wp2_with fail
  go_ret
  exact ⟨rfl, rfl⟩
theorem run_f64bits (x : Nat) (w : World) : (callFunc 71 #[.float .f64 x]).run Tryz.prog w = .ok (.value (.int .u64 x)) w := by
  rw [run_callFunc_extern Tryz.func71 (by kernel_rfl) (by kernel_rfl) (by kernel_rfl) (e := Extern.MathFloatBits.float64bits) (by kernel_rfl)]
  rfl
theorem run_f64frombits (x : Nat) (w : World) : (callFunc 70 #[.int .u64 (x : Nat)]).run Tryz.prog w = .ok (.value (.float .f64 x)) w := by
  rw [run_callFunc_extern Tryz.func70 (by kernel_rfl) (by kernel_rfl) (by kernel_rfl) (e := Extern.MathFloatBits.float64frombits) (by kernel_rfl)]
  rfl
set_option maxRecDepth 100000 in
set_option maxHeartbeats 2000000 in
theorem abs_walk (x y : Nat) (h : bits .andNot .u64 (x : Int) 9223372036854775808 = (y : Int)) (w : World) :
    Calls Tryz.prog 43 #[.float .f64 x] w fun e w' => e = .returned (.float .f64 y) ∧ w = w' := by
  have h1 := fun w => run_f64bits x w
  have h2 := fun w => run_f64frombits y w
  go_enter Tryz.func43, Tryz.ntmps43
  go_wp2_with fail
  go_ret
  exact ⟨rfl, rfl⟩
set_option maxRecDepth 100000 in
set_option maxHeartbeats 2000000 in
theorem isinf_walk (x y : Nat) (h : bits .andNot .u64 (x : Int) 9223372036854775808 = (y : Int)) (hy : (FloatKind.f64.format.order y 9218868437227405311 == some Ordering.gt) = false) (w : World) :
    Calls Tryz.prog 26 #[.float .f64 x, .int .i64 0] w fun e w' => e = .returned (.bool false) ∧ w = w' := by
  have H := Lib.hid (abs_walk x y h w)
  go_enter Tryz.func26, Tryz.ntmps26
  go_wp2_with fail
  refine H.out.mono ?_
  rintro e w1 ⟨rfl, rfl⟩
  go_wp2_with fail
  go_ret
  exact ⟨rfl, rfl⟩
theorem run_even (x z : Nat) (s : Bool) (m : Nat) (e : Int) (hx : FloatKind.f64.decode x = .number s m e) (hz : FloatKind.f64.encode ((Ieee.Datum.number s m e).integral .even) = z) (w : World) :
    (callFunc 27 #[.float .f64 x]).run Tryz.prog w = .ok (.value (.float .f64 z)) w := by
  rw [run_callFunc_extern Tryz.func27 (by kernel_rfl) (by kernel_rfl) (by kernel_rfl) (e := Extern.MathFloor.toIntegral "math.RoundToEven" .even) (by kernel_rfl)]
  have key : (Extern.MathFloor.toIntegral "math.RoundToEven" .even #[.float .f64 x]).run Tryz.prog w = .ok (.float .f64 z) w := by
    show Sem.run Tryz.prog (Extern.MathFloor.toIntegral.match_1 (motive := fun _ => Sem Value) (FloatKind.f64.decode x) (fun _ _ => _) (fun d => pure (.float .f64 (FloatKind.f64.encode (d.integral .even))))) w = _
    rw [hx, ← hz]
    rfl
  rw [key]
  rfl
/-! ### whole numbers' texts -/
def itxt (n : Int) : List UInt8 := Lib.itoa n
theorem ext_grow (w : World) (k : Nat) (os : Array Obj) : Ext [] w (Sort.grow (w.drewN k) os) := by
  refine ⟨rfl, rfl, rfl, ?_, fun i hi _ => ?_⟩
  · simp [Sort.grow]
  · simp [Sort.grow, Array.getElem?_append_left hi]
set_option maxRecDepth 100000 in
set_option maxHeartbeats 2000000 in
theorem format_walk (n : Int) (h0 : -9223372036854775808 ≤ n) (h1 : n ≤ 9223372036854775807) (w : World) (hw : Tabs w) :
    Calls Tryz.prog 16 #[.int .i64 n, .int .i64 10] w fun e w' => e = .returned (.string (S (itxt n))) ∧ Ext [] w w' := by
  refine (Tryz.strconv_FormatInt_10 n h0 h1 w hw.pow).mono ?_
  rintro e w' ⟨rfl, k, os, rfl⟩
  exact ⟨rfl, ext_grow w k os⟩
set_option maxRecDepth 100000 in
set_option maxHeartbeats 2000000 in
theorem intText_walk (n : Int) (h0 : -9223372036854775808 ≤ n) (h1 : n ≤ 9223372036854775807) (w : World) (hw : Tabs w) :
    Calls Tryz.prog 7 #[.int .i64 n] w fun e w' => e = .returned (.tuple #[.string (if -2147483647 ≤ n ∧ n ≤ 2147483647 then S (itxt n) else ⟨#[]⟩), .int .i64 (if -2147483647 ≤ n ∧ n ≤ 2147483647 then 0 else 3)]) ∧ Ext [] w w' := by
  have HF := Lib.hid (fun w hw => format_walk n h0 h1 w hw)
  have HW := Lib.hid hw
  by_cases q1 : n ≤ 2147483647
  · have q1b : ¬ 2147483647 < n := by omega
    by_cases q2 : -2147483647 ≤ n
    · have q2b : ¬ n < -2147483647 := by omega
      rw [if_pos ⟨q2, q1⟩, if_pos ⟨q2, q1⟩]
      go_enter Tryz.func7, Tryz.ntmps7
      go_wp2_with fail
      refine (HF.out _ HW.out).mono ?_
      rintro e w1 ⟨rfl, hx⟩
      have HX := Lib.hid hx
      clear hx
      go_wp2_with fail
      exact bodyPost_ret (results_tmp2 rfl _ _ _) rfl ⟨rfl, HX.out⟩
    · have q2b : n < -2147483647 := by omega
      rw [if_neg (fun h => q2 h.1), if_neg (fun h => q2 h.1)]
      go_enter Tryz.func7, Tryz.ntmps7
      go_wp2_with fail
      exact bodyPost_ret (results_tmp2 rfl _ _ _) rfl ⟨rfl, Ext.refl _ _⟩
  · have q1b : 2147483647 < n := by omega
    rw [if_neg (fun h => q1 h.2), if_neg (fun h => q1 h.2)]
    go_enter Tryz.func7, Tryz.ntmps7
    go_wp2_with fail
    exact bodyPost_ret (results_tmp2 rfl _ _ _) rfl ⟨rfl, Ext.refl _ _⟩
end Go.Proofs.YticahefindlmeaaGreatDoor.Nu
