/-
  number: from the tables that the row lists to what the walks ask.
-/
import Derived.Test.YticahefindlmeaaGreatDoorNuH
import Derived.Test.YticahefindlmeaaGreatDoorRows
import Derived.Lib.LaidU8
import Derived.Lib.LaidTab
namespace Go.Proofs.YticahefindlmeaaGreatDoor.Nu
open Go.RowKit

theorem trod_flt {H : Type} {enc : TypeId × Value → H} {P : Program} {w : World} {base : Nat} {sp : Nat → Bool} {held : Bool} {fuel : Nat} {t : TypeId} {cs : List Value} {x : DataW H × List MemPlace} {k : FloatKind}
    (ht : P.underlying t = some (.float k)) (h : DataW.trod enc P w base sp held fuel t cs = some x) : ∃ b, cs = [.float k b] ∧ x = (.lit (.float k b), []) := by
  cases fuel with
  | zero => simp [DataW.trod] at h
  | succ n =>
    unfold DataW.trod at h
    simp only [ht] at h
    split at h <;> simp_all
theorem cells_of_flt {H : Type} {enc : TypeId × Value → H} {P : Program} {w : World} {base : Nat} {sp : Nat → Bool} {held : Bool} {fuel : Nat} {t e : TypeId} {n : Nat} {k : FloatKind} {cs : List Value} {zs : List Nat} {p : List MemPlace}
    (ht : P.underlying t = some (.array n e)) (he : P.underlying e = some (.float k)) (hce : P.cellsOf e = 1) (hct : P.cellsOf t = n)
    (h : DataW.trod enc P w base sp held fuel t cs = some (.agg (zs.map fun z => .lit (.float k z)), p)) : cs = zs.map fun z => Value.float k z := by
  cases fuel with
  | zero => simp [DataW.trod] at h
  | succ fuel =>
    simp only [DataW.trod, ht, hce, hct, Nat.mul_one] at h
    split at h
    · rename_i hl
      obtain ⟨xs, hm, hx⟩ := Option.map_eq_some_iff.1 h
      have hxs : xs.map (·.1) = zs.map fun z => (DataW.lit (.float k z) : DataW H) := by
        have := congrArg Prod.fst hx
        simpa using this
      have hxl : xs.length = n := by simpa using Lib.mapM_length hm
      have hzl : zs.length = n := by
        have := congrArg List.length hxs
        simp at this
        omega
      apply List.ext_getElem?
      intro i
      by_cases hi : i < n
      · obtain ⟨b, hb, hf⟩ := Lib.mapM_at hm i i (by simp [hi])
        obtain ⟨z, hc, rfl⟩ := trod_flt he hf
        have h1 : cs[i]? = some (.float k z) := by
          have := congrArg (·[0]?) hc
          simpa [List.getElem?_take, List.getElem?_drop] using this
        have h2 : (xs.map (·.1))[i]? = some (DataW.lit (.float k z) : DataW H) := by simp [hb]
        rw [hxs] at h2
        simp only [List.getElem?_map, Option.map_eq_some_iff, DataW.lit.injEq, Lit.float.injEq, true_and] at h2
        obtain ⟨z', hz', rfl⟩ := h2
        simp [h1, hz']
      · rw [List.getElem?_eq_none (by omega), List.getElem?_eq_none (by simp; omega)]
    · cases h
def fltOf : DataW Unit → Nat
  | .lit (.float _ b) => b
  | _ => 0
def fltsOf : DataW Unit → List Nat
  | .agg l => l.map fltOf
  | _ => []
def tenAll : List Nat := fltsOf Rows.laid_math_pow10tab
def posAll : List Nat := fltsOf Rows.laid_math_pow10postab32
theorem ten_is : @Rows.laid_math_pow10tab Unit = .agg (tenAll.map fun z => .lit (.float .f64 z)) := by kernel_rfl
theorem pos_is : @Rows.laid_math_pow10postab32 Unit = .agg (posAll.map fun z => .lit (.float .f64 z)) := by kernel_rfl
theorem pow_is : @Rows.laid_internal_strconv_uint64pow10 Unit = Lib.tabData .u64 Lib.pow10Tab := by kernel_rfl
theorem pos_w : posAll[0]? = some 4607182418800017408 := by decide +kernel
theorem ten_w : ∀ k, k < 10 → tenAll[k]? = some (tenW.getD k 0) := by decide +kernel
theorem tabs_of {W : World} {L : List (String × DataW Unit)} (h : laidMet Tryz.prog L W) (m1 : ("math.pow10postab32", Rows.laid_math_pow10postab32) ∈ L) (m2 : ("math.pow10tab", Rows.laid_math_pow10tab) ∈ L) (m3 : ("internal/strconv.uint64pow10", Rows.laid_internal_strconv_uint64pow10) ∈ L) : Tabs W := by
  refine ⟨?_, fun k hk => ?_, ?_⟩
  · obtain ⟨g, t, cs, fuel, p, hg, ht, hv, hd⟩ := Lib.laidMet.reads h m1
    obtain rfl := Option.some.inj ((show Tryz.prog.globalNamed "math.pow10postab32" = some 1 by kernel_rfl).symm.trans hg)
    obtain rfl := Option.some.inj ((show (Tryz.prog.globals[1]?).map (·.type) = some 103 by kernel_rfl).symm.trans ht)
    rw [pos_is] at hd
    have hc := cells_of_flt Tryz.underlying103 Tryz.underlying32 (by kernel_rfl) (by kernel_rfl) hd
    have := World.var?_cell hg hv 0
    rw [this, ← Array.getElem?_toList, hc, List.getElem?_map, pos_w]
    rfl
  · obtain ⟨g, t, cs, fuel, p, hg, ht, hv, hd⟩ := Lib.laidMet.reads h m2
    obtain rfl := Option.some.inj ((show Tryz.prog.globalNamed "math.pow10tab" = some 2 by kernel_rfl).symm.trans hg)
    obtain rfl := Option.some.inj ((show (Tryz.prog.globals[2]?).map (·.type) = some 104 by kernel_rfl).symm.trans ht)
    rw [ten_is] at hd
    have hc := cells_of_flt Tryz.underlying104 Tryz.underlying32 (by kernel_rfl) (by kernel_rfl) hd
    have := World.var?_cell hg hv k
    rw [this, ← Array.getElem?_toList, hc, List.getElem?_map, ten_w k hk]
    rfl
  · obtain ⟨g, t, cs, fuel, p, hg, ht, hv, hd⟩ := Lib.laidMet.reads h m3
    obtain rfl := Option.some.inj ((show Tryz.prog.globalNamed "internal/strconv.uint64pow10" = some 4 by kernel_rfl).symm.trans hg)
    obtain rfl := Option.some.inj ((show (Tryz.prog.globals[4]?).map (·.type) = some 116 by kernel_rfl).symm.trans ht)
    rw [pow_is] at hd
    have hc := Lib.cells_of_tab Tryz.underlying116 Tryz.underlying86 (by kernel_rfl) (by kernel_rfl) hd
    unfold Lib.TabIs
    rw [hv, ← hc]
end Go.Proofs.YticahefindlmeaaGreatDoor.Nu
