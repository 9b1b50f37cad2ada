/-
  number: the library's tables, powers of ten, what is no number.
-/
import Derived.Test.YticahefindlmeaaDoorNuG
import Derived.Lib.LaidTab
import Derived.Laws.FloatArith
import Derived.Laws.BitsAllLaws
namespace Go.Proofs.YticahefindlmeaaDoor.Nu
open Go.RowKit

theorem ext_of_below {w w' : World} (h : Below w.heap.size w w') : Ext [] w w' := ⟨h.os, h.tape, h.output, h.size, fun k hk _ => h.block k hk⟩
theorem var_ext {P : Program} {w w' : World} {name : String} {cs : Array Value} (h : w.var? P name = some cs) (hx : Ext [] w w') : w'.var? P name = some cs := by
  unfold World.var? at h ⊢
  cases hg : P.globalNamed name with
  | none => rw [hg] at h; cases h
  | some g =>
    rw [hg] at h
    simp only [Option.bind_some] at h ⊢
    cases hb : w.heap[g]? with
    | none => rw [hb] at h; cases h
    | some o =>
      rw [hb] at h
      rw [hx.keep hb (by simp)]
      exact h
/-- 10^k as a double, for the few that are asked -/
def tenW : List Nat := [4607182418800017408, 4621819117588971520, 4636737291354636288, 4652007308841189376, 4666723172467343360, 4681608360884174848, 4696837146684686336, 4711630319722168320, 4726483295884279808, 4741671816366391296]
/-- what the walks ask of the tables -/
structure Tabs (w : World) : Prop where
  pos : w.cell? ⟨1, 0, none⟩ = some (.float .f64 4607182418800017408)
  tens : ∀ k, k < 10 → w.cell? ⟨2, k, none⟩ = some (.float .f64 (tenW.getD k 0))
  pow : Lib.TabIs Tryd.prog w "internal/strconv.uint64pow10" .u64 Lib.pow10Tab
theorem Tabs.ext {w w' : World} (h : Tabs w) (hx : Ext [] w w') : Tabs w' :=
  ⟨hx.cell h.pos, fun k hk => hx.cell (h.tens k hk), var_ext h.pow hx⟩
theorem ten_mul : ∀ k, k < 10 → FloatKind.f64.format.mul 4607182418800017408 (tenW.getD k 0) = some (tenW.getD k 0) := by decide +kernel
set_option maxRecDepth 100000 in
set_option maxHeartbeats 2000000 in
theorem pow10_walk (n : Nat) (hn : n < 10) (w : World) (hw : Tabs w) :
    Calls Tryd.prog 28 #[.int .i64 n] w fun e w' => e = .returned (.float .f64 (tenW.getD n 0)) ∧ Ext [] w w' := by
  have c1 : ∀ y : Ex w, y.w.cell? ⟨1, 0, none⟩ = some (.float .f64 4607182418800017408) := fun y => y.cell hw.pos
  have c2 : ∀ y : Ex w, y.w.cell? ⟨2, n, none⟩ = some (.float .f64 (tenW.getD n 0)) := fun y => y.cell (hw.tens n hn)
  have hm := fun w => run_float_arith (P := Tryd.prog) w .mul 31 .f64 4607182418800017408 (tenW.getD n 0) (tenW.getD n 0) (ten_mul n hn)
  generalize tenW.getD n 0 = T at *
  have n0 : (0 : Int) ≤ (n : Int) := by omega
  have n1 : (n : Int) ≤ 308 := by omega
  have n2 : (n : Int) / 32 = 0 := by omega
  have n3 : (n : Int) % 32 = (n : Int) := by omega
  have n4 : (n : Int) < 32 := by omega
  go_enter Tryd.func28, Tryd.ntmps28
  go_wp2_with fail
  refine wp_region_ext (by kernel_rfl) (by kernel_rfl) ?_
  repeat (go_big_quiet_step (fail))
  refine wpQuiet_nil ?_
  rintro _ ⟨y, rfl⟩
  have HX := Lib.hid y.ext
  go_wp2_with fail
  go_ret
  exact ⟨rfl, HX.out⟩
set_option maxRecDepth 100000 in
set_option maxHeartbeats 2000000 in
theorem ten_walk (n : Nat) (hn : n < 10) (w : World) (hw : Tabs w) :
    Calls Tryd.prog 17 #[.int .i64 n] w fun e w' => e = .returned (.float .f64 (tenW.getD n 0)) ∧ Ext [] w w' := by
  have H := Lib.hid (pow10_walk n hn w hw)
  go_enter Tryd.func17, Tryd.ntmps17
  go_wp2_with fail
  refine H.out.mono ?_
  rintro e w1 ⟨rfl, hx⟩
  have HX := Lib.hid hx
  clear hx
  go_wp2_with fail
  go_ret
  exact ⟨rfl, HX.out⟩
set_option maxRecDepth 100000 in
set_option maxHeartbeats 2000000 in
theorem isnan_walk (x : Nat) (r : Bool) (h : (FloatKind.f64.format.order x x != some Ordering.eq) = r) (w : World) :
    Calls Tryd.prog 14 #[.float .f64 x] w fun e w' => e = .returned (.bool r) ∧ w = w' := by
  go_enter Tryd.func14, Tryd.ntmps14
  go_wp2_with fail
  go_ret
  exact ⟨rfl, rfl⟩
theorem run_f64bits (x : Nat) (w : World) : (callFunc 48 #[.float .f64 x]).run Tryd.prog w = .ok (.value (.int .u64 x)) w := by
  rw [run_callFunc_extern Tryd.func48 (by kernel_rfl) (by kernel_rfl) (by kernel_rfl) (e := Extern.MathFloatBits.float64bits) (by kernel_rfl)]
  rfl
theorem run_f64frombits (x : Nat) (w : World) : (callFunc 47 #[.int .u64 (x : Nat)]).run Tryd.prog w = .ok (.value (.float .f64 x)) w := by
  rw [run_callFunc_extern Tryd.func47 (by kernel_rfl) (by kernel_rfl) (by kernel_rfl) (e := Extern.MathFloatBits.float64frombits) (by kernel_rfl)]
  rfl
set_option maxRecDepth 100000 in
set_option maxHeartbeats 2000000 in
theorem abs_walk (x y : Nat) (h : bits .andNot .u64 (x : Int) 9223372036854775808 = (y : Int)) (w : World) :
    Calls Tryd.prog 27 #[.float .f64 x] w fun e w' => e = .returned (.float .f64 y) ∧ w = w' := by
  have h1 := fun w => run_f64bits x w
  have h2 := fun w => run_f64frombits y w
  go_enter Tryd.func27, Tryd.ntmps27
  go_wp2_with fail
  go_ret
  exact ⟨rfl, rfl⟩
set_option maxRecDepth 100000 in
set_option maxHeartbeats 2000000 in
theorem isinf_walk (x y : Nat) (h : bits .andNot .u64 (x : Int) 9223372036854775808 = (y : Int)) (hy : (FloatKind.f64.format.order y 9218868437227405311 == some Ordering.gt) = false) (w : World) :
    Calls Tryd.prog 15 #[.float .f64 x, .int .i64 0] w fun e w' => e = .returned (.bool false) ∧ w = w' := by
  have H := Lib.hid (abs_walk x y h w)
  go_enter Tryd.func15, Tryd.ntmps15
  go_wp2_with fail
  refine H.out.mono ?_
  rintro e w1 ⟨rfl, rfl⟩
  go_wp2_with fail
  go_ret
  exact ⟨rfl, rfl⟩
theorem run_even (x z : Nat) (s : Bool) (m : Nat) (e : Int) (hx : FloatKind.f64.decode x = .number s m e) (hz : FloatKind.f64.encode ((Ieee.Datum.number s m e).integral .even) = z) (w : World) :
    (callFunc 16 #[.float .f64 x]).run Tryd.prog w = .ok (.value (.float .f64 z)) w := by
  rw [run_callFunc_extern Tryd.func16 (by kernel_rfl) (by kernel_rfl) (by kernel_rfl) (e := Extern.MathFloor.toIntegral "math.RoundToEven" .even) (by kernel_rfl)]
  have key : (Extern.MathFloor.toIntegral "math.RoundToEven" .even #[.float .f64 x]).run Tryd.prog w = .ok (.float .f64 z) w := by
    show Sem.run Tryd.prog (Extern.MathFloor.toIntegral.match_1 (motive := fun _ => Sem Value) (FloatKind.f64.decode x) (fun _ _ => _) (fun d => pure (.float .f64 (FloatKind.f64.encode (d.integral .even))))) w = _
    rw [hx, ← hz]
    rfl
  rw [key]
  rfl
/-! ### whole numbers' texts -/
def itxt (n : Int) : List UInt8 := Lib.itoa n
theorem ext_grow (w : World) (k : Nat) (os : Array Obj) : Ext [] w (Sort.grow (w.drewN k) os) := by
  refine ⟨rfl, rfl, rfl, ?_, fun i hi _ => ?_⟩
  · simp [Sort.grow]
  · simp [Sort.grow, Array.getElem?_append_left hi]
set_option maxRecDepth 100000 in
set_option maxHeartbeats 2000000 in
theorem format_walk (n : Int) (h0 : -9223372036854775808 ≤ n) (h1 : n ≤ 9223372036854775807) (w : World) (hw : Tabs w) :
    Calls Tryd.prog 18 #[.int .i64 n, .int .i64 10] w fun e w' => e = .returned (.string (S (itxt n))) ∧ Ext [] w w' := by
  refine (Tryd.strconv_FormatInt_10 n h0 h1 w hw.pow).mono ?_
  rintro e w' ⟨rfl, k, os, rfl⟩
  exact ⟨rfl, ext_grow w k os⟩
end Go.Proofs.YticahefindlmeaaDoor.Nu
