/-
  match: the map of places. 'oPl': a map whose keys are three bytes and whose elements are rows of places, as an object.
-/
import Derived.Test.YtngfhnpelchplaaMtA
import Derived.Maps.Own
import Derived.Maps.AppendAt
import Derived.WideKeyEntry
import Derived.DeepKeys4
namespace Go.Proofs.Ytngfhnpelchplaa.Mt
open Go.RowKit Go.Maps Go.WideElems Go.ChangeMaps Go.WideShapes Go.ChangeShapes

theorem rowKey : 55 < Try.prog.types.size := by decide +kernel
theorem wideKey : (match Try.prog.underlying 55 with | some (.array _ _) | some (.struct _) => true | _ => false) = true := by rw [Try.underlying55]
theorem laidOut : laidOutB Try.prog = true := by kernel_rfl
theorem klaw : WideMaps.KeyLaw Try.prog 55 := deep_law_laid laidOut (m := 2) (by omega) rowKey (by kernel_rfl) wideKey
theorem law : Keyed Try.prog 55 := Keyed.of_law klaw
noncomputable def kk (a b c : UInt8) : Lit := (keyOf Try.prog 55 (kv a b c)).getD .nil
theorem keyTypeK : Try.prog.keyType 55 = true := by kernel_rfl
theorem cellsKey : Try.prog.cellsOf 55 = 3 := by kernel_rfl
theorem cellsB : Try.prog.cellsOf 5 = 1 := by kernel_rfl
theorem wf8 (a : UInt8) : (Lit.int .u8 ((a.toNat : Nat) : Int)).wf = true := by
  have := a.toNat_lt
  simp [Lit.wf, IntKind.min, IntKind.max, IntKind.signed, IntKind.bits]
  omega
theorem kv_key (a b c : UInt8) : keyOf Try.prog 55 (kv a b c) = some (kk a b c) := by
  have : ∃ l, keyOf Try.prog 55 (kv a b c) = some l := by
    obtain ⟨m, hm⟩ : ∃ m, Try.prog.types.size + 1 = m + 2 := ⟨Try.prog.types.size - 1, by have := rowKey; omega⟩
    unfold keyOf kv
    simp only [Try.underlying55, keyTypeK, Value.formed, cellsKey]
    rw [hm]
    simp [Program.keyLits, Try.underlying55, cellsKey, Try.underlying5, cellsB, Value.cells, List.range_succ, u8v, wf8]
  obtain ⟨l, hl⟩ := this
  unfold kk
  rw [hl]
  rfl
theorem kv_inj {a b c a' b' c' : UInt8} (h : kv a b c = kv a' b' c') : a = a' ∧ b = b' ∧ c = c' := by
  unfold kv u8v at h
  simp only [Value.agg.injEq, Array.mk.injEq, List.cons.injEq, Value.int.injEq, true_and, and_true, Int.natCast_inj, UInt8.toNat_inj] at h
  exact h
theorem kk_ne {a b c a' b' c' : UInt8} (h : kv a b c ≠ kv a' b' c') : kk a b c ≠ kk a' b' c' := fun e => h (law.inj (kv_key a b c) (by rw [kv_key, e]))

/-- an element reads as what it is -/
def RV : Value → Option (DataW Value × List MemPlace) := fun v => some (.held v, [])
abbrev nilS : Value := .slice none 0 0
theorem zeroInts (w : World) : (zeroValue 58).run Try.prog w = .ok nilS w := by kernel_rfl
theorem map_look {w : World} {mb n : Nat} {D : DataW Value} (h : w.ownsMap Try.prog 55 RV mb n D) {key : Value} {kl : Lit} (hkey : keyOf Try.prog 55 key = some kl) :
    ∃ v, (Instr.lookup 45 (.map (some mb)) key false).run Try.prog w = .ok v w ∧ D.atKey kl (.held nilS) = .held v := by
  obtain ⟨v, ps, h1, h2⟩ := h.lookup law Try.underlying45 (zeroInts w) (zd := .held nilS) (zp := []) rfl hkey
  refine ⟨v, h1, ?_⟩
  unfold RV at h2
  simp only [Option.some.injEq, Prod.mk.injEq] at h2
  exact h2.1.symm
theorem map_entry {w : World} {mb n : Nat} {D : DataW Value} (h : w.ownsMap Try.prog 55 RV mb n D) (hn : n < maxLen) {key : Value} {kl : Lit} (hkey : keyOf Try.prog 55 key = some kl) :
    ∃ v0 st W1, (Instr.mapEntry 45 (.map (some mb)) key).run Try.prog w = .ok (.tuple #[v0, .int .i64 st]) W1 ∧ Ext [mb] w W1 ∧ D.atKey kl (.held nilS) = .held v0 ∧
      ∀ w2 val, w2.heap[mb]? = W1.heap[mb]? → ∃ w3, (Instr.entryStore 45 (.map (some mb)) (.int .i64 st) val).run Try.prog w2 = .ok () w3 ∧ w3.ownsMap Try.prog 55 RV mb (n + 1) (D.put kl (.held val)) ∧ Ext [mb] w2 w3 := by
  have h0 := h
  obtain ⟨es, clock, hb, F, hs, rfl⟩ := h
  obtain ⟨v0, st, es1, clock1, hrun, hv, hst⟩ := entry_then_store klaw Try.underlying45 (z := nilS) zeroInts hb F hkey
  have hsame := heap_setBlock_same hb (.map es1 clock1)
  refine ⟨v0, st, _, hrun, ?_, ?_, fun w2 val hw2 => ?_⟩
  · exact (Ext.refl [mb] w).grown (row := some mb) ⟨rfl, rfl, rfl, by simp [setBlock], fun i _ hi => heap_setBlock_other hb _ (fun e => hi (by rw [e]))⟩ (fun k hk => .inl (by cases hk; simp))
  · have hat := atKey_sorted (es.toList.map (rg Try.prog 55 RV)) (fit_rising law F) kl (law.key hkey)
    rcases hv with ⟨e0, hm0, hk0, rfl⟩ | ⟨hno, rfl⟩
    · obtain ⟨y0, hy0⟩ := F.reads e0 hm0
      obtain ⟨zv, hzv, hd⟩ := rd_val hy0
      have m0 := rd_key hy0
      rw [hk0, hkey] at m0
      rw [hat.2 (rg Try.prog 55 RV e0) (List.mem_map.2 ⟨e0, hm0, rfl⟩) (by rw [rg_of hy0]; exact (Option.some.inj m0).symm), rg_of hy0, hd]
      unfold RV at hzv
      rw [← Option.some.inj hzv]
    · exact hat.1 (fun p hp e1 => by
        obtain ⟨x, hx, rfl⟩ := List.mem_map.1 hp
        obtain ⟨y, hy⟩ := F.reads x hx
        have m1 := rd_key hy
        rw [rg_of hy] at e1
        rw [e1] at m1
        exact hno x hx (law.inj m1 hkey)) (.held nilS)
  · obtain ⟨es', clock', hr1, hr2⟩ := hst w2 val (by rw [hw2, hsame])
    obtain ⟨w', hu1, hu2, _⟩ := h0.update law Try.underlying45 hn hkey (val := val) (d := .held val) (ps := []) rfl
    rw [hr2] at hu1
    obtain rfl : setBlock w mb (.map es' clock') = w' := by
      injection hu1
    have hb2 : w2.heap[mb]? = some (.map es1 clock1) := by rw [hw2, hsame]
    refine ⟨_, hr1, ?_, (Ext.refl [mb] w2).grown (row := some mb) ⟨rfl, rfl, rfl, by simp [setBlock], fun i _ hi => heap_setBlock_other hb2 _ (fun e => hi (by rw [e]))⟩ (fun k hk => .inl (by cases hk; simp))⟩
    obtain ⟨es2, clock2, g1, g2, g3, g4⟩ := hu2
    rw [heap_setBlock_same hb] at g1
    injection g1 with g1
    injection g1 with g1 g1'
    subst g1 g1'
    exact ⟨_, _, heap_setBlock_same hb2 _, g2, g3, g4⟩
end Go.Proofs.Ytngfhnpelchplaa.Mt
