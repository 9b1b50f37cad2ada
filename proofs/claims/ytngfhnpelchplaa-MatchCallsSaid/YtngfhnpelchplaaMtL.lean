/-
  pagemenderkit.Same over pieces; the chapter's examples (match).
-/
import Derived.Test.YtngfhnpelchplaaMtK
import Derived.Laws.StructEq
namespace Go.Proofs.Ytngfhnpelchplaa.Mt
open Go.RowKit

def pcB (x y : Pc) : Bool := (x.1 == y.1 && x.2.1 == y.2.1) && x.2.2 == y.2.2
theorem pcB_eq {x y : Pc} (h : pcB x y = true) : x = y := by
  obtain ⟨a, b, c⟩ := x
  obtain ⟨a', b', c'⟩ := y
  simp [pcB] at h
  obtain ⟨⟨rfl, rfl⟩, rfl⟩ := h
  rfl
theorem pcB_ne {x y : Pc} (h : pcB x y = false) : x ≠ y := by
  rintro rfl
  simp [pcB] at h
theorem run_neq_pc (x y : Pc) (w : World) : (binOp .neq 34 (.agg #[u8v x.1, .int .i64 x.2.1, .int .i64 x.2.2]) (.agg #[u8v y.1, .int .i64 y.2.1, .int .i64 y.2.2])).run Try.prog w = .ok (.bool (!pcB x y)) w := by
  have hS : Try.prog.underlying 34 = some (.struct (Try.prog.fieldsOf 34)) := by kernel_rfl
  have hp : Try.prog.stoodInHeld 34 = false := by kernel_rfl
  have u3 := Try.underlying3
  have a3 := Try.isAgg3
  have z3 := Try.sizeOf3
  have u5 := Try.underlying5
  have a5 := Try.isAgg5
  have z5 := Try.sizeOf5
  rw [run_neq_struct, show (10000 : Nat) = 9999 + 1 from rfl, run_equalIn_agg w 9999 34 _ _ hS hp]
  simp only [Program.fieldsOf, Try.underlying34]
  obtain ⟨a, b, c⟩ := x
  obtain ⟨a', b', c'⟩ := y
  have e : ((a.toNat : Int) == (a'.toNat : Int)) = (a == a') := by
    rw [Bool.eq_iff_iff]; simp only [beq_iff_eq]; exact ⟨fun h => UInt8.toNat_inj.1 (by omega), fun h => by rw [h]⟩
  simp only [pcB, ← e]
  go_simp
  by_cases h1 : a = a' <;> by_cases h2 : b = b' <;> by_cases h3 : c = c' <;> simp [h1, h2, h3]
set_option maxRecDepth 100000 in
set_option maxHeartbeats 8000000 in
theorem Same_walk (v u : Value) (l m : List Pc) (w : World) (hv : PcAt w v l) (hu : PcAt w u m) (hl : l.length ≤ 1048576) (hm : m.length ≤ 1048576) :
    Calls Try.prog 21 #[v, u] w fun e w' => e = .returned (.bool (decide (l = m))) ∧ Ext [] w w' := by
  obtain ⟨ao, cap, rfl, hc⟩ := hv
  obtain ⟨ao2, cap2, rfl, hc2⟩ := hu
  have HC := Lib.hid hc
  have HC2 := Lib.hid hc2
  clear hc hc2
  by_cases hlen : l.length = m.length
  · obtain ⟨R, hR⟩ : ∃ R, decide (l = m) = R := ⟨_, rfl⟩
    rw [hR]
    have HR := Lib.hid hR
    have j1 : (((l.length : Nat) : Int) != ((m.length : Nat) : Int)) = false := by simp [hlen]
    have j2 : ((l.length != m.length) : Bool) = false := by simp [hlen]
    have HL := Lib.hid hlen
    clear hR hlen
    have hge : Try.prog.eqGuardType Try.prog.depth 34 = false := by kernel_rfl
    go_enter Try.func21, Try.ntmps21
    go_wp2_with fail
    clear j1 j2
    go_loopg [5] l.length (fun g iv wr => ∃ k : Nat, g + k = l.length ∧ iv = .int .i64 k ∧ l.take k = m.take k ∧ Ext [] w wr)
    case atStart => exact ⟨0, by omega, rfl, by simp, Ext.refl _ _⟩
    case round =>
      obtain ⟨k, hk, rfl, htk, hx⟩ := hrel
      have HX := Lib.hid hx
      have HT := Lib.hid htk
      clear hx htk
      by_cases hlt : k < l.length
      · have hlm : k < m.length := by have := HL.out; omega
        obtain ⟨b, off, rfl, hcell⟩ := HC.out (by omega)
        obtain ⟨b2, off2, rfl, hcell2⟩ := HC2.out (by omega)
        obtain ⟨x, hxk⟩ : ∃ x, l[k]? = some x := ⟨_, List.getElem?_eq_getElem hlt⟩
        obtain ⟨y, hyk⟩ : ∃ y, m[k]? = some y := ⟨_, List.getElem?_eq_getElem hlm⟩
        obtain ⟨c0, c1, c2⟩ := hcell k x hxk
        obtain ⟨e0, e1, e2⟩ := hcell2 k y hyk
        have d0 : ∀ q : Ex wr, q.w.cell? _ = some _ := fun q => Ext.cell (HX.out.trans q.ext) c0
        have d1 : ∀ q : Ex wr, q.w.cell? _ = some _ := fun q => Ext.cell (HX.out.trans q.ext) c1
        have d2 : ∀ q : Ex wr, q.w.cell? _ = some _ := fun q => Ext.cell (HX.out.trans q.ext) c2
        have f0 : ∀ q : Ex wr, q.w.cell? _ = some _ := fun q => Ext.cell (HX.out.trans q.ext) e0
        have f1 : ∀ q : Ex wr, q.w.cell? _ = some _ := fun q => Ext.cell (HX.out.trans q.ext) e1
        have f2 : ∀ q : Ex wr, q.w.cell? _ = some _ := fun q => Ext.cell (HX.out.trans q.ext) e2
        have hne := run_neq_pc x y
        have HXY := Lib.hid (⟨hxk, hyk⟩ : _ ∧ _)
        clear hcell hcell2 c0 c1 c2 e0 e1 e2 hxk hyk
        go_wp2_with fail
        refine wp_region_ext (by kernel_rfl) (by kernel_rfl) ?_
        repeat (go_big_quiet_step (fail))
        refine wpQuiet_nil ?_
        rintro _ ⟨q, rfl⟩
        have HX := Lib.hid (HX.out.trans q.ext)
        clear d0 d1 d2 f0 f1 f2 hne
        cases hb : pcB x y
        · have hlm2 : ¬ l = m := fun h => pcB_ne hb (by have h1 := HXY.out.1; rw [h, HXY.out.2] at h1; exact (Option.some.inj h1).symm)
          have hR := HR.out
          rw [decide_eq_false hlm2] at hR
          subst hR
          clear hb hlm2
          go_wp2_with fail
          go_ret
          exact ⟨rfl, HX.out⟩
        · have hxy := pcB_eq hb
          clear hb
          go_wp2_with fail
          go_roundg (l.length - (k + 1))
          case measure => omega
          case rel =>
            refine ⟨k + 1, by omega, by go_num, ?_, HX.out⟩
            rw [List.take_add_one, List.take_add_one, HT.out, HXY.out.1, HXY.out.2, hxy]
      · obtain rfl : k = l.length := by omega
        have h := HT.out
        rw [List.take_length, HL.out, List.take_length] at h
        have hR := HR.out
        rw [decide_eq_true h] at hR
        subst hR
        clear h
        go_wp2_with fail
        go_ret
        exact ⟨rfl, HX.out⟩
  · have e : decide (l = m) = false := decide_eq_false (fun h => hlen (by rw [h]))
    rw [e]
    have j1 : (((l.length : Nat) : Int) != ((m.length : Nat) : Int)) = true := by simp; omega
    have j2 : ((l.length != m.length) : Bool) = true := by simpa using hlen
    clear e hlen
    go_enter Try.func21, Try.ntmps21
    go_wp2_with fail
    go_ret
    exact ⟨rfl, Ext.refl _ _⟩
end Go.Proofs.Ytngfhnpelchplaa.Mt
