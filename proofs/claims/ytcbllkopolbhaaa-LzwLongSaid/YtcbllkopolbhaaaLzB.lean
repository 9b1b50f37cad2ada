/-
  lzw.Codes, the parts for the walk: 'clear' of a map of the call's own; the map as an object ('Sep'); a fresh row of one number; the bytes that are still to come.
-/
import Derived.Test.YtcbllkopolbhaaaLzA
namespace Go.Proofs.Ytcbllkopolbhaaa.Lz
open Go.RowKit Go.Maps Go.WideShapes Go.ChangeMaps Go.ChangeShapes

theorem wpList_clear_own {H : Type} {P : Program} {w : World} {ops : Array Oper} {rest : List Oper} {o : Oper} {a : Go.Act} {Q : Exit → Go.Act → World → Prop}
    (hg : o.guard = none) (m : Operand) (t : TypeId) (hop : o.op = Op.call { callee := Callee.builtin Builtin.clear, args := #[m], argTypes := #[t] })
    (k e : TypeId) (ht : P.underlying t = some (.map k e)) (R : Value → Option (DataW H × List MemPlace)) (b n : Nat) (D : DataW H) (hm : a.eval m = .map (some b)) (hown : w.ownsMap P k R b n D)
    (hK : ∀ w', w'.ownsMap P k R b 0 (.map []) → w.mapTurned w' b → wpList P ops Q rest (a.put o.dst (.tuple #[])) w') :
    wpList P ops Q (o :: rest) a w := by
  refine wpList_plain hg fun K' hK' => ?_
  obtain ⟨es, clock, hb, F, hs, rfl⟩ := hown
  have hrun : (Builtin.clear_ #[t] o.type #[.map (some b)]).run P w = .ok (.tuple #[]) (setBlock w b (.map #[] clock)) := by
    simp [Builtin.clear_, run_underlying ht, MapKept.run_getObj_map hb, MapKept.run_setObj_map _ hb, Result.andThen, setBlock]
  unfold Oper.wp
  simp [execOp, hop, resolve, invoke, builtin, hm, hrun, Result.andThen]
  exact hK' _ _ (hK _ ⟨#[], clock, heap_setBlock_same hb _, ⟨by simp, MapKept.stamped_empty clock, by simp⟩, Nat.le_refl _, rfl⟩ ⟨es, clock, #[], clock, hb, rfl⟩)

/-- 'clear(m)' as an equation for the walk. -/
theorem own_clear {H : Type} {P : Program} {w : World} {t k e : TypeId} (ht : P.underlying t = some (.map k e)) {R : Value → Option (DataW H × List MemPlace)} {b n : Nat} {D : DataW H} (hown : w.ownsMap P k R b n D) :
    ∃ w', (∀ ty, (Builtin.clear_ #[t] ty #[.map (some b)]).run P w = .ok (.tuple #[]) w') ∧ w'.ownsMap P k R b 0 (.map []) ∧ w.mapTurned w' b := by
  obtain ⟨es, clock, hb, F, hs, rfl⟩ := hown
  exact ⟨setBlock w b (.map #[] clock), fun ty => by simp [Builtin.clear_, run_underlying ht, MapKept.run_getObj_map hb, MapKept.run_setObj_map _ hb, Result.andThen, setBlock],
    ⟨#[], clock, heap_setBlock_same hb _, ⟨by simp, MapKept.stamped_empty clock, by simp⟩, Nat.le_refl _, rfl⟩, ⟨es, clock, #[], clock, hb, rfl⟩⟩
theorem zeroInt (w : World) : (zeroValue 3).run Try.prog w = .ok (.int .i64 0) w := by kernel_rfl
noncomputable def RE : Value → Option (DataW Unit × List MemPlace) := plainElem Try.prog 3
def oMap (b : Nat) (tb : List (Nat × Nat)) : Ob where
  F := [b]
  P := fun w => ∃ D : DataW Unit, w.ownsMap Try.prog 41 RE b tb.length D ∧ TB D tb
  ok := fun ⟨D, ⟨es, clock, hb, h⟩, ht⟩ hx hS => ⟨D, ⟨es, clock, hx.keep hb (hS _ (by simp)), h⟩, ht⟩
  lt := fun ⟨_, ⟨_, _, hb, _⟩, _⟩ k hk => by rw [List.mem_singleton.1 hk]; exact lt_of_block hb
theorem oMap_new (w : World) : (oMap w.heap.size []).P (w.alloc (.map #[] 0)) := ⟨_, World.ownsMap_made _ _ _ _, TB.empty⟩
theorem turned_ext {w w' : World} {b : Nat} (h : w.mapTurned w' b) : Ext [b] w w' := (Ext.refl [b] w).grown h.grown (fun k hk => .inl (by cases hk; simp))
theorem grown_ext {w w' : World} {b : Nat} (h : w.grownBy w' (some b)) : Ext [b] w w' := (Ext.refl [b] w).grown h (fun k hk => .inl (by cases hk; simp))
theorem row_one (w : World) (x : Value) : (w.alloc (.cells #[x] 3 (0, 0))).ownsRow 0 3 1 (.slice (some ⟨w.heap.size, 0, none⟩) 1 1) 1 [x] :=
  ⟨rfl, .inr ⟨w.heap.size, 1, #[x], rfl, Nat.zero_le _, heap_alloc_at _, Nat.le_refl _, by unfold maxLen; omega, rfl, rfl⟩⟩

def tailB (s : ByteArray) (k : Nat) : List Nat := (List.range (s.size - k)).map fun i => Bt.byteAt s (k + i)
theorem tailB_len (s : ByteArray) (k : Nat) : (tailB s k).length = s.size - k := by simp [tailB]
theorem tailB_cons (s : ByteArray) (k : Nat) (h : k < s.size) : tailB s k = Bt.byteAt s k :: tailB s (k + 1) := by
  unfold tailB
  rw [show s.size - k = (s.size - (k + 1)) + 1 by omega, List.range_succ_eq_map, List.map_cons, List.map_map]
  congr 1
  refine List.map_congr_left fun i _ => ?_
  simp only [Function.comp_apply]
  congr 1
  omega
theorem tailB_end (s : ByteArray) (k : Nat) (h : s.size ≤ k) : tailB s k = [] := by
  unfold tailB; rw [show s.size - k = 0 by omega]; rfl
def codesT (tb : List (Nat × Nat)) (known : Nat) (l : List Nat) : List Nat := codesF l.length tb known l
theorem codesT_nil (tb : List (Nat × Nat)) (known : Nat) : codesT tb known [] = [257] := rfl
theorem codesT_full (tb : List (Nat × Nat)) (known c : Nat) (r : List Nat) (row : Nat) (rest : List Nat) (he : ext tb c r = (row, rest)) (h : known + 1 = 4094) : codesT tb known (c :: r) = row :: 256 :: codesT [] 257 rest := by
  have hl := ext_len tb c r
  unfold codesT
  rw [List.length_cons]
  conv => lhs; unfold codesF
  simp only [he, if_pos h] at hl ⊢
  rw [codesF_fuel r.length [] 257 rest hl]
theorem codesT_more (tb : List (Nat × Nat)) (known c : Nat) (r : List Nat) (row : Nat) (rest : List Nat) (he : ext tb c r = (row, rest)) (h : known + 1 ≠ 4094) : codesT tb known (c :: r) = row :: codesT (grow tb row rest) (known + 1) rest := by
  have hl := ext_len tb c r
  unfold codesT
  rw [List.length_cons]
  conv => lhs; unfold codesF
  simp only [he, if_neg h] at hl ⊢
  rw [codesF_fuel r.length _ _ rest hl]
theorem look_lt {tb : List (Nat × Nat)} {k : Nat × Nat} {m : Nat} (h : look tb k = some m) : m < 258 + tb.length := by
  unfold look at h
  obtain ⟨i, hi, rfl⟩ := Option.map_eq_some_iff.1 h
  have := (List.findIdx?_eq_some_iff_getElem.1 hi).1
  omega
end Go.Proofs.Ytcbllkopolbhaaa.Lz
