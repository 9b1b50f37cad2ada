/-
  MtA, MtB, MtC, MtD, MtE, MtF, MtG, MtI, MtH, MtJ, MtK, MtL, MtM, MtP, MtQ, in one text.
-/
import Derived.Test.YtnapnaaejignaaaGreatPkA
import Derived.Laws.Rows
import Derived.Laws.IdiomCopy
import Derived.Shelf.Abstract
import Derived.Deep.CutBlock
import Derived.Deep.DeepCutAuto
import Derived.Maps.Own
import Derived.Maps.AppendAt
import Derived.WideKeyEntry
import Derived.DeepKeys4
import Derived.Maps.OwnSet
import Derived.Laws.AppendOwn
import Derived.TacticsInMore
import Derived.LoopIn
import Derived.Sort.LoopGhostIn
import Derived.BigFrameIn
import Derived.BigGuardIn
import Derived.Lib.AppendZerosOnto
import Derived.Lib.Walk
import Derived.Lib.SliceRun
import Derived.Laws.StructEq
/-! MtA: match: what a place's key is; 'at' and 'long' walked. -/
namespace Go.Proofs.YtnapnaaejignaaaGreat.Mt
open Go.RowKit
attribute [local go_sem] Oper.semAt_some

def B (s : ByteArray) : List UInt8 := s.data.toList
theorem B_len (s : ByteArray) : (B s).length = s.size := Array.length_toList
def byteF (s : ByteArray) (i : Nat) : UInt8 := (B s).getD i 0
theorem bget (s : ByteArray) (i : Nat) (h : i < s.size) : s[i]'h = byteF s i := by
  unfold byteF
  rw [List.getD_eq_getElem?_getD, List.getElem?_eq_getElem (by rw [B_len]; exact h)]
  rfl
abbrev u8v (x : UInt8) : Value := .int .u8 (x.toNat : Int)
def kv (a b c : UInt8) : Value := .agg #[u8v a, u8v b, u8v c]
def keyV (s : ByteArray) (i : Nat) : Value := kv (byteF s i) (byteF s (i + 1)) (byteF s (i + 2))

theorem take3 (s : ByteArray) (i : Nat) (h3 : i + 3 ≤ s.size) : (s.extract i s.size).data.toList.take 3 = [byteF s i, byteF s (i + 1), byteF s (i + 2)] := by
  rw [ByteArray.data_extract, Array.toList_extract]
  unfold List.extract
  apply List.ext_getElem?
  intro q
  rw [List.getElem?_take]
  by_cases hq : q < 3
  · rw [if_pos hq, List.getElem?_take, if_pos (by omega), List.getElem?_drop]
    have hl : i + q < s.data.toList.length := by rw [Array.length_toList]; show i + q < s.size; omega
    rw [List.getElem?_eq_getElem hl]
    have e : ∀ j, j < 3 → (hj : i + j < s.data.toList.length) → s.data.toList[i + j]'hj = byteF s (i + j) := fun j _ hj => by
      unfold byteF B
      rw [List.getD_eq_getElem?_getD, List.getElem?_eq_getElem hj]
      rfl
    rw [e q hq hl]
    match q, hq with
    | 0, _ => rfl
    | 1, _ => rfl
    | 2, _ => rfl
  · rw [if_neg hq]
    match q, hq with
    | q + 3, _ => simp
theorem copy3 (W : World) (kb : Nat) (x : ByteArray) (a b c : UInt8) (h3 : 3 ≤ x.size) (hx : x.data.toList.take 3 = [a, b, c]) (cs : Array Value) (hcs : cs.size = 3) (hk : W.heap[kb]? = some (.cells cs 133 (0, 0))) :
    ∃ W1, (Builtin.copy_ #[28, 9] 3 #[.slice (some ⟨kb, 0, none⟩) 3 3, .string x]).run Tryz.prog W = .ok (.int .i64 3) W1 ∧ W1.heap[kb]? = some (.cells #[u8v a, u8v b, u8v c] 133 (0, 0)) ∧ Ext [kb] W W1 := by
  have hmin : Nat.min x.size 3 = 3 := Nat.min_eq_right h3
  have hc : ∀ j, j < 3 → (W.cell? ⟨kb, 0 + j, none⟩).isSome = true := fun j hj => by
    rw [Nat.zero_add, cellOf hk]
    simp; omega
  have hf : ∀ j, j < 3 → W.frozen? ⟨kb, 0 + j, none⟩ = false := fun j hj => by rw [Nat.zero_add]; exact freeOf hk j
  have hst := run_storeCells_cells (P := Tryz.prog) kb 0 ([a, b, c].map fun x => Value.int .u8 (x.toNat : Int)) 0 W (by simpa using hc) (by simpa using hf) (by
    intro v hv
    obtain ⟨x, _, rfl⟩ := List.mem_map.1 hv
    rfl)
  have hk1 := heap_setCell_same hk (i := 0) (u8v a)
  have hk2 := heap_setCell_same hk1 (i := 1) (u8v b)
  have hk3 := heap_setCell_same hk2 (i := 2) (u8v c)
  refine ⟨W.setCells kb 0 ([a, b, c].map fun x => Value.int .u8 (x.toNat : Int)), ?_, ?_, ?_⟩
  case refine_1 =>
    have hq : (Tryz.prog.info? 5).map (·.size) = some 1 := by kernel_rfl
    have htk : (x.data.toList.map fun b : UInt8 => Value.int IntKind.u8 (b.toNat : Int)).take 3 = [a, b, c].map fun x => Value.int .u8 (x.toNat : Int) := by rw [← List.map_take, hx]
    cases hq' : Tryz.prog.info? 5 with
    | none => simp [hq'] at hq
    | some i =>
      simp [Builtin.copy_, run_underlying Tryz.underlying28, Builtin.lenOf, Builtin.firstCells, sizeOf, typeInfo, hq', hmin]
      rw [htk, hst]
      rfl
  case refine_2 =>
    match cs, hcs with
    | ⟨[x, y, z]⟩, _ => exact hk3
  case refine_3 => exact (((Ext.refl [kb] W).setCell _ _ (.inl (by simp))).setCell _ _ (.inl (by simp))).setCell _ _ (.inl (by simp))
theorem infoKey : (Tryz.prog.info? 133).map (·.size) = some 3 := by kernel_rfl
theorem results_key {fn : Func} {p q : Tmp} (h : fn.results = #[.cell p 133, .tmp q]) (tmps : Array Value) (w : World) (g : Nat) (x y z v : Value) (hp : tmps.getD p undef = .pointer (some ⟨g, 0, none⟩)) (hq : tmps.getD q undef = v) (hg : w.heap[g]? = some (.cells #[x, y, z] 133 (0, 0))) :
    (results fn tmps).run Tryz.prog w = .ok (.tuple #[.agg #[x, y, z], v]) w := by
  have hp' : tmps[p]?.getD undef = .pointer (some ⟨g, 0, none⟩) := by simpa using hp
  have hq' : tmps[q]?.getD undef = v := by simpa using hq
  simp [results, h, hp', hq', asAddr, run_loadVar_row w g 133 133 #[x, y, z] (0, 0) _ hg Tryz.underlying133 rfl infoKey]
abbrev finder (s : ByteArray) (mb : Nat) (nx : Int) : Obj := .cells #[.string s, .map (some mb), .int .i64 nx] 101 (0, 0)
set_option maxRecDepth 100000 in
set_option maxHeartbeats 8000000 in
theorem at_no (fb mb i : Nat) (nx : Int) (s : ByteArray) (w : World) (hf : w.heap[fb]? = some (finder s mb nx)) (hs : s.size ≤ 1048576) (hi : i ≤ s.size) (h3 : s.size < i + 3) :
    Calls Tryz.prog 76 #[.pointer (some ⟨fb, 0, none⟩), .int .i64 i] w fun e w' => e = .returned (.tuple #[kv 0 0 0, .bool false]) ∧ Ext [] w w' := by
  have i0 : (0 : Int) ≤ (i : Int) := by omega
  have i1 : (s.size : Int) < (i : Int) + 3 := by omega
  go_enter Tryz.func76, Tryz.ntmps76
  go_upto_region 1 with (fail)
  have S1 := (Sep.start w).new ((Ext.refl _ w).alloc (.cells #[.int .u8 0, .int .u8 0, .int .u8 0] 133)) (Ob.one w.heap.size (.cells #[.int .u8 0, .int .u8 0, .int .u8 0] 133 (0, 0))) (heap_alloc_at _) (fun q hq => by rw [List.mem_singleton.1 hq]; exact Nat.le_refl _)
  obtain ⟨W0, hW0⟩ : ∃ W0, w.alloc (.cells #[.int .u8 0, .int .u8 0, .int .u8 0] 133) = W0 := ⟨_, rfl⟩
  obtain ⟨kb, hkb⟩ : ∃ kb, w.heap.size = kb := ⟨_, rfl⟩
  rw [hW0, hkb] at S1
  rw [hW0, hkb]
  have hf0 := S1.ext.keep hf (by simp)
  have hk := S1.get 0 rfl
  have c0 : W0.cell? ⟨fb, 0, none⟩ = some (.string s) := cellOf hf0 0
  have k0 : W0.cell? ⟨kb, 0, none⟩ = some (.int .u8 0) := cellOf hk 0
  have k1 : W0.cell? ⟨kb, 1, none⟩ = some (.int .u8 0) := cellOf hk 1
  have k2 : W0.cell? ⟨kb, 2, none⟩ = some (.int .u8 0) := cellOf hk 2
  have z0 : W0.frozen? ⟨kb, 0, none⟩ = false := freeOf hk 0
  have z1 : W0.frozen? ⟨kb, 1, none⟩ = false := freeOf hk 1
  have z2 : W0.frozen? ⟨kb, 2, none⟩ = false := freeOf hk 2
  have HS := Lib.hid S1
  clear S1 hW0 hkb hf0 hk
  go_wp2_with fail
  have Sp := HS.out.upd 0 (Ob.one kb (.cells #[.int .u8 0, .int .u8 0, .int .u8 0] 133 (0, 0))) rfl ((((Ext.refl [kb] W0).setCell ⟨kb, 0, none⟩ (.int .u8 0) (.inl (by simp))).setCell ⟨kb, 1, none⟩ (.int .u8 0) (.inl (by simp))).setCell ⟨kb, 2, none⟩ (.int .u8 0) (.inl (by simp))) (Fr.refl _ _) (heap_setCell_same (heap_setCell_same (heap_setCell_same (HS.out.get 0 rfl) _) _) _)
  exact bodyPost_ret (results_key rfl _ _ kb _ _ _ _ rfl rfl (Sp.get 0 rfl)) rfl ⟨rfl, Sp.ext⟩
set_option maxRecDepth 100000 in
set_option maxHeartbeats 8000000 in
theorem at_yes (fb mb i : Nat) (nx : Int) (s : ByteArray) (w : World) (hf : w.heap[fb]? = some (finder s mb nx)) (hs : s.size ≤ 1048576) (h3 : i + 3 ≤ s.size) :
    Calls Tryz.prog 76 #[.pointer (some ⟨fb, 0, none⟩), .int .i64 i] w fun e w' => e = .returned (.tuple #[keyV s i, .bool true]) ∧ Ext [] w w' := by
  have i0 : (0 : Int) ≤ (i : Int) := by omega
  have i1 : (i : Int) + 3 ≤ (s.size : Int) := by omega
  go_enter Tryz.func76, Tryz.ntmps76
  go_upto_region 1 with (fail)
  have S1 := (Sep.start w).new ((Ext.refl _ w).alloc (.cells #[.int .u8 0, .int .u8 0, .int .u8 0] 133)) (Ob.one w.heap.size (.cells #[.int .u8 0, .int .u8 0, .int .u8 0] 133 (0, 0))) (heap_alloc_at _) (fun q hq => by rw [List.mem_singleton.1 hq]; exact Nat.le_refl _)
  obtain ⟨W0, hW0⟩ : ∃ W0, w.alloc (.cells #[.int .u8 0, .int .u8 0, .int .u8 0] 133) = W0 := ⟨_, rfl⟩
  obtain ⟨kb, hkb⟩ : ∃ kb, w.heap.size = kb := ⟨_, rfl⟩
  rw [hW0, hkb] at S1
  rw [hW0, hkb]
  have hf0 := S1.ext.keep hf (by simp)
  have hk := S1.get 0 rfl
  have c0 : W0.cell? ⟨fb, 0, none⟩ = some (.string s) := cellOf hf0 0
  have k0 : W0.cell? ⟨kb, 0, none⟩ = some (.int .u8 0) := cellOf hk 0
  have k1 : W0.cell? ⟨kb, 1, none⟩ = some (.int .u8 0) := cellOf hk 1
  have k2 : W0.cell? ⟨kb, 2, none⟩ = some (.int .u8 0) := cellOf hk 2
  have z0 : W0.frozen? ⟨kb, 0, none⟩ = false := freeOf hk 0
  have z1 : W0.frozen? ⟨kb, 1, none⟩ = false := freeOf hk 1
  have z2 : W0.frozen? ⟨kb, 2, none⟩ = false := freeOf hk 2
  have HS := Lib.hid S1
  clear S1 hW0 hkb hf0 hk
  go_wp2_with fail
  have y0 : (i : Int) ≤ (s.size : Int) := by omega
  obtain ⟨W1, hcp, hk1, hx1⟩ := copy3 W0.drew kb (s.extract i s.size) _ _ _ (by simp; omega) (take3 s i h3) #[.int .u8 0, .int .u8 0, .int .u8 0] rfl (HS.out.get 0 rfl)
  have Sp := (HS.out.quiet ((Ext.refl _ W0).drew)).upd 0 (Ob.one kb (.cells #[u8v (byteF s i), u8v (byteF s (i + 1)), u8v (byteF s (i + 2))] 133 (0, 0))) rfl hx1 (Fr.refl _ _) hk1
  go_region
  have HS := Lib.hid Sp
  have d0 : W1.cell? ⟨kb, 0, none⟩ = some (u8v (byteF s i)) := cellOf hk1 0
  have d1 : W1.cell? ⟨kb, 1, none⟩ = some (u8v (byteF s (i + 1))) := cellOf hk1 1
  have d2 : W1.cell? ⟨kb, 2, none⟩ = some (u8v (byteF s (i + 2))) := cellOf hk1 2
  have z0 : W1.frozen? ⟨kb, 0, none⟩ = false := freeOf hk1 0
  have z1 : W1.frozen? ⟨kb, 1, none⟩ = false := freeOf hk1 1
  have z2 : W1.frozen? ⟨kb, 2, none⟩ = false := freeOf hk1 2
  have HK1 := Lib.hid hk1
  clear Sp hk1 hx1 hcp c0
  go_wp2_with fail
  have Sp := HS.out.upd 0 (Ob.one kb (.cells #[u8v (byteF s i), u8v (byteF s (i + 1)), u8v (byteF s (i + 2))] 133 (0, 0))) rfl ((((Ext.refl [kb] W1).setCell ⟨kb, 0, none⟩ (u8v (byteF s i)) (.inl (by simp))).setCell ⟨kb, 1, none⟩ (u8v (byteF s (i + 1))) (.inl (by simp))).setCell ⟨kb, 2, none⟩ (u8v (byteF s (i + 2))) (.inl (by simp))) (Fr.refl _ _) (heap_setCell_same (heap_setCell_same (heap_setCell_same (HS.out.get 0 rfl) _) _) _)
  exact bodyPost_ret (results_key rfl _ _ kb _ _ _ _ rfl rfl (Sp.get 0 rfl)) rfl ⟨rfl, Sp.ext⟩
/-- how long a match is, from n on (k: rounds at most) -/
def longF (s : ByteArray) (a b : Nat) : Nat → Nat → Nat
  | 0, n => n
  | k + 1, n => if n < 258 ∧ b + n < s.size ∧ byteF s (a + n) = byteF s (b + n) then longF s a b k (n + 1) else n
def longN (s : ByteArray) (a b : Nat) : Nat := longF s a b 259 0
theorem longF_end (s : ByteArray) (a b k n : Nat) (h : ¬ (n < 258 ∧ b + n < s.size ∧ byteF s (a + n) = byteF s (b + n))) : longF s a b (k + 1) n = n := by rw [longF, if_neg h]
theorem longF_step (s : ByteArray) (a b k n : Nat) (h : n < 258 ∧ b + n < s.size ∧ byteF s (a + n) = byteF s (b + n)) : longF s a b (k + 1) n = longF s a b k (n + 1) := by rw [longF, if_pos h]
set_option maxRecDepth 100000 in
set_option maxHeartbeats 8000000 in
theorem long_walk (fb mb a b : Nat) (nx : Int) (s : ByteArray) (w : World) (hf : w.heap[fb]? = some (finder s mb nx)) (hs : s.size ≤ 1048576) (hb : b < s.size) (hab : a < b) :
    Calls Tryz.prog 78 #[.pointer (some ⟨fb, 0, none⟩), .int .i64 a, .int .i64 b] w fun e w' => e = .returned (.int .i64 (longN s a b : Nat)) ∧ Ext [] w w' := by
  obtain ⟨R, hR⟩ : ∃ R, longN s a b = R := ⟨_, rfl⟩
  rw [hR]
  unfold longN at hR
  have HR := Lib.hid hR
  have HF := Lib.hid hf
  clear hR hf
  go_enter Tryz.func78, Tryz.ntmps78
  go_wp2_with fail
  go_loopg [7] 259 (fun g nv wr => ∃ n : Nat, g + n = 259 ∧ n ≤ 258 ∧ nv = .int .i64 n ∧ longF s a b g n = R ∧ Ext [] w wr)
  case atStart => exact ⟨0, by omega, by omega, rfl, HR.out, Ext.refl _ _⟩
  case round =>
    obtain ⟨n, hgn, hn8, rfl, hL, hx⟩ := hrel
    have hf := hx.keep HF.out (by simp)
    have c0 : wr.cell? ⟨fb, 0, none⟩ = some (.string s) := cellOf hf 0
    have HX := Lib.hid hx
    have HL := Lib.hid hL
    clear hx hL hf
    by_cases h1 : n < 258
    · obtain ⟨g', rfl⟩ : ∃ g', gk = g' + 1 := ⟨gk - 1, by omega⟩
      have j1 : (n : Int) < 258 := by omega
      by_cases h2 : b + n < s.size
      · have j2 : (b : Int) + (n : Int) < (s.size : Int) := by omega
        have ha : a + n < s.size := by omega
        have j3 : (a : Int) + (n : Int) < (s.size : Int) := by omega
        have j4 : (0 : Int) ≤ (a : Int) + (n : Int) := by omega
        have j5 : (0 : Int) ≤ (b : Int) + (n : Int) := by omega
        have t1 : ((a : Int) + (n : Int)).toNat = a + n := by omega
        have t2 : ((b : Int) + (n : Int)).toNat = b + n := by omega
        obtain ⟨x, hx⟩ : ∃ x, s[a + n]'ha = x := ⟨_, rfl⟩
        obtain ⟨y, hy⟩ : ∃ y, s[b + n]'h2 = y := ⟨_, rfl⟩
        have hbx : byteF s (a + n) = x := by rw [← bget s _ ha, hx]
        have hby : byteF s (b + n) = y := by rw [← bget s _ h2, hy]
        by_cases h3 : x = y
        · have hst := longF_step s a b g' n ⟨h1, h2, by rw [hbx, hby, h3]⟩
          rw [HL.out] at hst
          have HST := Lib.hid hst
          subst h3
          clear hst hbx hby
          go_wp2_with fail
          go_region
          go_wp2_with fail
          go_roundg g'
          case measure => omega
          case rel => exact ⟨n + 1, by omega, by omega, by go_num, HST.out.symm, HX.out.drew⟩
        · have hen := longF_end s a b g' n (by rw [hbx, hby]; exact fun h => h3 h.2.2)
          rw [HL.out] at hen
          have hne : ¬ ((x.toNat : Nat) : Int) = ((y.toNat : Nat) : Int) := fun h => h3 (UInt8.toNat_inj.1 (by omega))
          have q1 : (((x.toNat : Nat) : Int) == ((y.toNat : Nat) : Int)) = false := beq_eq_false_iff_ne.2 hne
          have HEN := Lib.hid hen
          clear hen hbx hby hne h3
          go_wp2_with fail
          go_region
          go_wp2_with fail
          go_ret
          exact ⟨by rw [HEN.out]; rfl, HX.out.drew⟩
      · have j2 : (s.size : Int) ≤ (b : Int) + (n : Int) := by omega
        have j5 : (0 : Int) ≤ (b : Int) + (n : Int) := by omega
        have j6 : (b : Int) + (n : Int) < 2000000 := by omega
        have j7 : decide ((b : Int) + (n : Int) < (s.size : Int)) = false := decide_eq_false (by omega)
        have hen := longF_end s a b g' n (fun h => h2 h.2.1)
        rw [HL.out] at hen
        have HEN := Lib.hid hen
        clear hen
        go_wp2_with fail
        go_region
        go_wp2_with fail
        go_ret
        exact ⟨by rw [HEN.out]; rfl, HX.out.drew⟩
    · obtain rfl : n = 258 := by omega
      obtain ⟨g', rfl⟩ : ∃ g', gk = g' + 1 := ⟨gk - 1, by omega⟩
      have hen := longF_end s a b g' 258 (fun h => h1 h.1)
      rw [HL.out] at hen
      have HEN := Lib.hid hen
      clear hen
      go_wp2_with fail
      go_region
      go_wp2_with fail
      go_ret
      exact ⟨by rw [HEN.out]; rfl, HX.out.drew⟩
end Go.Proofs.YtnapnaaejignaaaGreat.Mt

/-! MtB: match: the map of places. 'oPl': a map whose keys are three bytes and whose elements are rows of places, as an object. -/
namespace Go.Proofs.YtnapnaaejignaaaGreat.Mt
open Go.RowKit Go.Maps Go.WideElems Go.ChangeMaps Go.WideShapes Go.ChangeShapes

theorem rowKey : 133 < Tryz.prog.types.size := by decide +kernel
theorem wideKey : (match Tryz.prog.underlying 133 with | some (.array _ _) | some (.struct _) => true | _ => false) = true := by rw [Tryz.underlying133]
theorem laidOut : laidOutB Tryz.prog = true := by kernel_rfl
set_option maxRecDepth 100000 in
theorem klaw : WideMaps.KeyLaw Tryz.prog 133 := deep_law_laid laidOut (m := 2) (by omega) rowKey (by kernel_rfl) wideKey
theorem law : Keyed Tryz.prog 133 := Keyed.of_law klaw
noncomputable def kk (a b c : UInt8) : Lit := (keyOf Tryz.prog 133 (kv a b c)).getD .nil
theorem keyTypeK : Tryz.prog.keyType 133 = true := by kernel_rfl
theorem cellsKey : Tryz.prog.cellsOf 133 = 3 := by kernel_rfl
theorem cellsB : Tryz.prog.cellsOf 5 = 1 := by kernel_rfl
theorem wf8 (a : UInt8) : (Lit.int .u8 ((a.toNat : Nat) : Int)).wf = true := by
  have := a.toNat_lt
  simp [Lit.wf, IntKind.min, IntKind.max, IntKind.signed, IntKind.bits]
  omega
theorem kv_key (a b c : UInt8) : keyOf Tryz.prog 133 (kv a b c) = some (kk a b c) := by
  have : ∃ l, keyOf Tryz.prog 133 (kv a b c) = some l := by
    obtain ⟨m, hm⟩ : ∃ m, Tryz.prog.types.size + 1 = m + 2 := ⟨Tryz.prog.types.size - 1, by have := rowKey; omega⟩
    unfold keyOf kv
    simp only [Tryz.underlying133, keyTypeK, Value.formed, cellsKey]
    rw [hm]
    simp [Program.keyLits, Tryz.underlying133, cellsKey, Tryz.underlying5, cellsB, Value.cells, List.range_succ, u8v, wf8]
  obtain ⟨l, hl⟩ := this
  unfold kk
  rw [hl]
  rfl
theorem kv_inj {a b c a' b' c' : UInt8} (h : kv a b c = kv a' b' c') : a = a' ∧ b = b' ∧ c = c' := by
  unfold kv u8v at h
  simp only [Value.agg.injEq, Array.mk.injEq, List.cons.injEq, Value.int.injEq, true_and, and_true, Int.natCast_inj, UInt8.toNat_inj] at h
  exact h
theorem kk_ne {a b c a' b' c' : UInt8} (h : kv a b c ≠ kv a' b' c') : kk a b c ≠ kk a' b' c' := fun e => h (law.inj (kv_key a b c) (by rw [kv_key, e]))

/-- an element reads as what it is -/
def RV : Value → Option (DataW Value × List MemPlace) := fun v => some (.held v, [])
abbrev nilS : Value := .slice none 0 0
theorem zeroInts (w : World) : (zeroValue 58).run Tryz.prog w = .ok nilS w := by kernel_rfl
theorem map_look {w : World} {mb n : Nat} {D : DataW Value} (h : w.ownsMap Tryz.prog 133 RV mb n D) {key : Value} {kl : Lit} (hkey : keyOf Tryz.prog 133 key = some kl) :
    ∃ v, (Instr.lookup 99 (.map (some mb)) key false).run Tryz.prog w = .ok v w ∧ D.atKey kl (.held nilS) = .held v := by
  obtain ⟨v, ps, h1, h2⟩ := h.lookup law Tryz.underlying99 (zeroInts w) (zd := .held nilS) (zp := []) rfl hkey
  refine ⟨v, h1, ?_⟩
  unfold RV at h2
  simp only [Option.some.injEq, Prod.mk.injEq] at h2
  exact h2.1.symm
set_option maxRecDepth 100000 in
theorem map_entry {w : World} {mb n : Nat} {D : DataW Value} (h : w.ownsMap Tryz.prog 133 RV mb n D) (hn : n < maxLen) {key : Value} {kl : Lit} (hkey : keyOf Tryz.prog 133 key = some kl) :
    ∃ v0 st W1, (Instr.mapEntry 99 (.map (some mb)) key).run Tryz.prog w = .ok (.tuple #[v0, .int .i64 st]) W1 ∧ Ext [mb] w W1 ∧ D.atKey kl (.held nilS) = .held v0 ∧
      ∀ w2 val, w2.heap[mb]? = W1.heap[mb]? → ∃ w3, (Instr.entryStore 99 (.map (some mb)) (.int .i64 st) val).run Tryz.prog w2 = .ok () w3 ∧ w3.ownsMap Tryz.prog 133 RV mb (n + 1) (D.put kl (.held val)) ∧ Ext [mb] w2 w3 := by
  have h0 := h
  obtain ⟨es, clock, hb, F, hs, rfl⟩ := h
  obtain ⟨v0, st, es1, clock1, hrun, hv, hst⟩ := entry_then_store klaw Tryz.underlying99 (z := nilS) zeroInts hb F hkey
  have hsame := heap_setBlock_same hb (.map es1 clock1)
  refine ⟨v0, st, _, hrun, ?_, ?_, fun w2 val hw2 => ?_⟩
  · exact (Ext.refl [mb] w).grown (row := some mb) ⟨rfl, rfl, rfl, by simp [setBlock], fun i _ hi => heap_setBlock_other hb _ (fun e => hi (by rw [e]))⟩ (fun k hk => .inl (by cases hk; simp))
  · have hat := atKey_sorted (es.toList.map (rg Tryz.prog 133 RV)) (fit_rising law F) kl (law.key hkey)
    rcases hv with ⟨e0, hm0, hk0, rfl⟩ | ⟨hno, rfl⟩
    · obtain ⟨y0, hy0⟩ := F.reads e0 hm0
      obtain ⟨zv, hzv, hd⟩ := rd_val hy0
      have m0 := rd_key hy0
      rw [hk0, hkey] at m0
      rw [hat.2 (rg Tryz.prog 133 RV e0) (List.mem_map.2 ⟨e0, hm0, rfl⟩) (by rw [rg_of hy0]; exact (Option.some.inj m0).symm), rg_of hy0, hd]
      unfold RV at hzv
      rw [← Option.some.inj hzv]
    · exact hat.1 (fun p hp e1 => by
        obtain ⟨x, hx, rfl⟩ := List.mem_map.1 hp
        obtain ⟨y, hy⟩ := F.reads x hx
        have m1 := rd_key hy
        rw [rg_of hy] at e1
        rw [e1] at m1
        exact hno x hx (law.inj m1 hkey)) (.held nilS)
  · obtain ⟨es', clock', hr1, hr2⟩ := hst w2 val (by rw [hw2, hsame])
    obtain ⟨w', hu1, hu2, _⟩ := h0.update law Tryz.underlying99 hn hkey (val := val) (d := .held val) (ps := []) rfl
    rw [hr2] at hu1
    obtain rfl : setBlock w mb (.map es' clock') = w' := by
      injection hu1
    have hb2 : w2.heap[mb]? = some (.map es1 clock1) := by rw [hw2, hsame]
    refine ⟨_, hr1, ?_, (Ext.refl [mb] w2).grown (row := some mb) ⟨rfl, rfl, rfl, by simp [setBlock], fun i _ hi => heap_setBlock_other hb2 _ (fun e => hi (by rw [e]))⟩ (fun k hk => .inl (by cases hk; simp))⟩
    obtain ⟨es2, clock2, g1, g2, g3, g4⟩ := hu2
    rw [heap_setBlock_same hb] at g1
    injection g1 with g1
    injection g1 with g1 g1'
    subst g1 g1'
    exact ⟨_, _, heap_setBlock_same hb2 _, g2, g3, g4⟩
end Go.Proofs.YtnapnaaejignaaaGreat.Mt

/-! MtC: match: the map of places as an object. -/
namespace Go.Proofs.YtnapnaaejignaaaGreat.Mt
open Go.RowKit Go.Maps Go.WideElems Go.ChangeMaps Go.WideShapes Go.ChangeShapes

/-- the places ahead of 'tq' where a key stands -/
def plc (s : ByteArray) (tq : Nat) (a b c : UInt8) : List Nat := (List.range tq).filter fun j => decide (j + 3 ≤ s.size ∧ byteF s j = a ∧ byteF s (j + 1) = b ∧ byteF s (j + 2) = c)
theorem plc_snoc (s : ByteArray) (tq : Nat) (a b c : UInt8) : plc s (tq + 1) a b c = plc s tq a b c ++ if tq + 3 ≤ s.size ∧ byteF s tq = a ∧ byteF s (tq + 1) = b ∧ byteF s (tq + 2) = c then [tq] else [] := by
  unfold plc
  rw [List.range_succ, List.filter_append]
  congr 1
  by_cases h : tq + 3 ≤ s.size ∧ byteF s tq = a ∧ byteF s (tq + 1) = b ∧ byteF s (tq + 2) = c
  · rw [if_pos h, List.filter_cons, if_pos (by simpa using h)]; rfl
  · rw [if_neg h, List.filter_cons, if_neg (by simpa using h)]; rfl
theorem plc_len (s : ByteArray) (tq : Nat) (a b c : UInt8) : (plc s tq a b c).length ≤ tq := by
  have := List.length_filter_le (fun j => decide (j + 3 ≤ s.size ∧ byteF s j = a ∧ byteF s (j + 1) = b ∧ byteF s (j + 2) = c)) (List.range tq)
  rw [List.length_range] at this
  exact this
abbrev iv (n : Nat) : Value := .int .i64 (n : Int)

def PlP (w : World) (mb : Nat) (F : List Nat) (s : ByteArray) (tq : Nat) : Prop :=
  mb ∉ F ∧ (∀ g ∈ F, g < w.heap.size) ∧ ∃ (D : DataW Value) (val : UInt8 → UInt8 → UInt8 → Value), w.ownsMap Tryz.prog 133 RV mb tq D ∧
    ∀ a b c, D.atKey (kk a b c) (.held nilS) = .held (val a b c) ∧ w.ownsRow 0 3 1 (val a b c) (plc s tq a b c).length ((plc s tq a b c).map iv) ∧ (∀ g, (val a b c).ownBlock = some g → g ∈ F) ∧
      ∀ a' b' c', ¬ (a' = a ∧ b' = b ∧ c' = c) → ∀ g, (val a b c).ownBlock = some g → (val a' b' c').ownBlock ≠ some g
theorem map_ext {S : List Nat} {w w' : World} {mb n : Nat} {D : DataW Value} (h : w.ownsMap Tryz.prog 133 RV mb n D) (hx : Ext S w w') (hS : mb ∉ S) : w'.ownsMap Tryz.prog 133 RV mb n D := by
  obtain ⟨es, clock, hb, h⟩ := h
  exact ⟨es, clock, hx.keep hb hS, h⟩
def oPl (mb : Nat) (F : List Nat) (s : ByteArray) (tq : Nat) : Ob where
  F := mb :: F
  P := fun w => PlP w mb F s tq
  ok := fun h hx hS => by
    obtain ⟨h1, h2, D, val, h3, h4⟩ := h
    refine ⟨h1, fun g hg => Nat.lt_of_lt_of_le (h2 g hg) hx.size, D, val, map_ext h3 hx (hS _ (by simp)), fun a b c => ?_⟩
    obtain ⟨k1, k2, k3, k4⟩ := h4 a b c
    exact ⟨k1, ownsRow_ext k2 hx (fun g hg => hS g (by simp [k3 g hg])), k3, k4⟩
  lt := fun h k hk => by
    obtain ⟨h1, h2, D, val, h3, h4⟩ := h
    rcases List.mem_cons.1 hk with rfl | hk
    · exact h3.lt
    · exact h2 k hk
theorem atKey_empty (k : Lit) : (DataW.map [] : DataW Value).atKey k (.held nilS) = .held nilS := rfl
theorem oPl_new (w : World) (s : ByteArray) : (oPl w.heap.size [] s 0).P (w.alloc (.map #[] 0)) :=
  ⟨by simp, by simp, .map [], fun _ _ _ => nilS, World.ownsMap_made _ _ _ _, fun a b c => ⟨atKey_empty _, World.ownsRow_nil _ _ _ _, fun g hg => by simp [Value.ownBlock] at hg, fun _ _ _ _ g hg => by simp [Value.ownBlock] at hg⟩⟩
/-- a place without a key is passed over -/
theorem oPl_skip {w : World} {mb : Nat} {F : List Nat} {s : ByteArray} {tq : Nat} (h : (oPl mb F s tq).P w) (h3 : s.size < tq + 3) : (oPl mb F s (tq + 1)).P w := by
  obtain ⟨h1, h2, D, val, ho, h4⟩ := h
  refine ⟨h1, h2, D, val, ho.mono (Nat.le_succ _), fun a b c => ?_⟩
  have e : plc s (tq + 1) a b c = plc s tq a b c := by rw [plc_snoc, if_neg (fun h => by omega), List.append_nil]
  rw [e]
  exact h4 a b c
set_option maxRecDepth 100000 in
theorem oPl_entry {w : World} {mb : Nat} {F : List Nat} {s : ByteArray} {tq : Nat} (h : (oPl mb F s tq).P w) (h3 : tq + 3 ≤ s.size) (hto : tq ≤ 1048576) :
    ∃ v0 st W1 n xs, (Instr.mapEntry 99 (.map (some mb)) (keyV s tq)).run Tryz.prog w = .ok (.tuple #[v0, .int .i64 st]) W1 ∧ Ext [mb] w W1 ∧ (∀ g, v0.ownBlock = some g → g ∈ F) ∧ mb ∉ F ∧ n ≤ tq ∧ W1.ownsRow 0 3 1 v0 n xs ∧
      ∀ w2 v', w2.heap[mb]? = W1.heap[mb]? → Ext v0.ownBlock.toList W1 w2 → w2.ownsRow 0 3 1 v' (n + 1) (xs ++ [iv tq]) → (v'.ownBlock = v0.ownBlock ∨ ∃ g, v'.ownBlock = some g ∧ W1.heap.size ≤ g) →
        ∃ w3, (Instr.entryStore 99 (.map (some mb)) (.int .i64 st) v').run Tryz.prog w2 = .ok () w3 ∧ Ext [mb] w2 w3 ∧ (oPl mb (F ++ v'.ownBlock.toList) s (tq + 1)).P w3 := by
  obtain ⟨hmF, hlt, D, val, ho, hv⟩ := h
  obtain ⟨a, ha⟩ : ∃ a, byteF s tq = a := ⟨_, rfl⟩
  obtain ⟨b, hb⟩ : ∃ b, byteF s (tq + 1) = b := ⟨_, rfl⟩
  obtain ⟨c, hc⟩ : ∃ c, byteF s (tq + 2) = c := ⟨_, rfl⟩
  unfold keyV
  rw [ha, hb, hc]
  obtain ⟨v0, st, W1, hrun, hx1, hat, hst⟩ := map_entry ho (by unfold maxLen; omega) (kv_key a b c)
  obtain ⟨k1, k2, k3, k4⟩ := hv a b c
  obtain rfl : val a b c = v0 := by
    rw [k1] at hat
    injection hat
  have hmb := ho.lt
  have hne : ∀ g, (val a b c).ownBlock = some g → g ∉ [mb] := fun g hg h => hmF (by rw [List.mem_singleton] at h; exact h ▸ k3 g hg)
  refine ⟨val a b c, st, W1, _, _, hrun, hx1, k3, hmF, plc_len s tq a b c, ownsRow_ext k2 hx1 hne, fun w2 v' hsame hx2 hown' hloc => ?_⟩
  obtain ⟨w3, hr3, ho3, hx3⟩ := hst w2 v' hsame
  have hv'mb : ∀ g, v'.ownBlock = some g → g ∉ [mb] := fun g hg h => by
    rw [List.mem_singleton] at h
    subst h
    rcases hloc with h | ⟨g', h, h'⟩
    · rw [hg] at h
      exact hmF (k3 g h.symm)
    · rw [hg] at h
      injection h with h
      have := hx1.size
      omega
  refine ⟨w3, hr3, hx3, ?_, ?_, D.put (kk a b c) (.held v'), fun a' b' c' => if a' = a ∧ b' = b ∧ c' = c then v' else val a' b' c', ho3, fun a' b' c' => ?_⟩
  · intro h
    rcases List.mem_append.1 h with h | h
    · exact hmF h
    · exact hv'mb mb (by simpa using h) (by simp)
  · intro g hg
    rcases List.mem_append.1 hg with hg | hg
    · exact Nat.lt_of_lt_of_le (hlt g hg) (Nat.le_trans hx1.size (Nat.le_trans hx2.size hx3.size))
    · exact Nat.lt_of_lt_of_le (hown'.lt g (by simpa using hg)).2 hx3.size
  · have hold : ∀ a'' b'' c'', ¬ (a'' = a ∧ b'' = b ∧ c'' = c) → ∀ g, v'.ownBlock = some g → (val a'' b'' c'').ownBlock ≠ some g := fun a'' b'' c'' hn g hg h => by
      rcases hloc with e | ⟨g', e, e'⟩
      · exact k4 a'' b'' c'' hn g (by rw [← e]; exact hg) h
      · rw [hg] at e
        injection e with e
        have := hlt g ((hv a'' b'' c'').2.2.1 g h)
        have := hx1.size
        omega
    by_cases hk : a' = a ∧ b' = b ∧ c' = c
    · simp only [if_pos hk]
      obtain ⟨rfl, rfl, rfl⟩ := hk
      have e : plc s (tq + 1) a' b' c' = plc s tq a' b' c' ++ [tq] := by rw [plc_snoc, if_pos ⟨h3, ha, hb, hc⟩]
      refine ⟨atKey_put_same ho.isMap (law.key (kv_key _ _ _)) _ _, ?_, fun g hg => by simp [hg], fun a'' b'' c'' hn g hg => ?_⟩
      · rw [e, List.length_append, List.map_append]
        exact ownsRow_ext hown' hx3 hv'mb
      · rw [if_neg hn]
        exact hold a'' b'' c'' hn g hg
    · simp only [if_neg hk]
      obtain ⟨q1, q2, q3, q4⟩ := hv a' b' c'
      have e : plc s (tq + 1) a' b' c' = plc s tq a' b' c' := by rw [plc_snoc, if_neg (fun h => hk ⟨by rw [← h.2.1, ha], by rw [← h.2.2.1, hb], by rw [← h.2.2.2, hc]⟩), List.append_nil]
      have hne' : ∀ g, (val a' b' c').ownBlock = some g → g ∉ [mb] := fun g hg h => hmF (by rw [List.mem_singleton] at h; exact h ▸ q3 g hg)
      refine ⟨?_, ?_, fun g hg => by simp [q3 g hg], fun a'' b'' c'' hn g hg => ?_⟩
      · rw [atKey_put_other (kk_ne (fun h => hk (kv_inj h)))]
        exact q1
      · rw [e]
        refine ownsRow_ext (ownsRow_ext (ownsRow_ext q2 hx1 hne') hx2 (fun g hg h => ?_)) hx3 hne'
        have h : (val a b c).ownBlock = some g := by simpa using h
        exact k4 a' b' c' hk g h hg
      · by_cases hk2 : a'' = a ∧ b'' = b ∧ c'' = c
        · rw [if_pos hk2]
          exact fun h => hold a' b' c' hk g h hg
        · rw [if_neg hk2]
          exact q4 a'' b'' c'' hn g hg
end Go.Proofs.YtnapnaaejignaaaGreat.Mt

/-! MtD: match: 'know' walked. -/
namespace Go.Proofs.YtnapnaaejignaaaGreat.Mt
open Go.RowKit Go.Maps Go.WideElems Go.ChangeMaps Go.WideShapes Go.ChangeShapes
attribute [local go_sem] Oper.semAt_some

theorem infoInt : (Tryz.prog.info? 3).map (fun i => (i.zero, i.size, i.bytes)) = some (some (.int .i64 0), 1, 8) := by kernel_rfl
section
variable {P : Program} {Q : Exit → Go.Act → World → Prop}
theorem wp_entry_run {o : Oper} {a : Go.Act} {w w' : World} {K : Go.Act → World → Prop} (t : TypeId) (m k : Operand) (ho : o.op = .mapEntry t m k) {mv kv v : Value} (hm : a.eval m = mv) (hk : a.eval k = kv) (hr : (Instr.mapEntry t mv kv).run P w = .ok v w') (h : K (a.put o.dst v) w') : o.wp P a w K Q := by
  unfold Oper.wp
  simp [execOp, ho, hm, hk, hr, Result.andThen]
  exact h
theorem wp_store_run {o : Oper} {a : Go.Act} {w w' : World} {K : Go.Act → World → Prop} (t : TypeId) (m s x : Operand) (ho : o.op = .entryStore t m s x) {mv sv v : Value} (hm : a.eval m = mv) (hs : a.eval s = sv) (hx : a.eval x = v) (hr : (Instr.entryStore t mv sv v).run P w = .ok () w') (h : K (a.put o.dst undef) w') : o.wp P a w K Q := by
  unfold Oper.wp
  simp [execOp, ho, hm, hs, hx, hr, Result.andThen]
  exact h
end
def oFi (fb mb : Nat) (F : List Nat) (s : ByteArray) (i : Nat) : Ob where
  F := fb :: mb :: F
  P := fun w => w.heap[fb]? = some (finder s mb (i : Int)) ∧ (oPl mb F s i).P w ∧ fb ≠ mb ∧ fb ∉ F
  ok := fun h hx hS => ⟨hx.keep h.1 (hS _ (by simp)), (oPl mb F s i).ok h.2.1 hx (fun k hk => hS k (List.mem_cons_of_mem _ hk)), h.2.2⟩
  lt := fun h k hk => by
    rcases List.mem_cons.1 hk with rfl | hk
    · exact lt_of_block h.1
    · exact (oPl mb F s i).lt h.2.1 k hk
def TwoW (b : Nat) (o : Obj) (b' : Nat) (o' : Obj) : Type := { w : World // w.heap[b]? = some o ∧ w.heap[b']? = some o' }
def TwoW.w {b b' : Nat} {o o' : Obj} (x : TwoW b o b' o') : World := x.val
theorem TwoW.h1 {b b' : Nat} {o o' : Obj} (x : TwoW b o b' o') : x.w.heap[b]? = some o := x.property.1
theorem TwoW.h2 {b b' : Nat} {o o' : Obj} (x : TwoW b o b' o') : x.w.heap[b']? = some o' := x.property.2
def TwoW.mk {b b' : Nat} {o o' : Obj} (w : World) (h1 : w.heap[b]? = some o) (h2 : w.heap[b']? = some o') : TwoW b o b' o' := ⟨w, h1, h2⟩
set_option maxRecDepth 100000 in
set_option maxHeartbeats 8000000 in
theorem know_walk (fb mb nx tq : Nat) (F : List Nat) (s : ByteArray) (w : World) (hP : (oFi fb mb F s nx).P w) (hs : s.size ≤ 1048576) (h1 : nx ≤ tq) (h2 : tq ≤ s.size) :
    Calls Tryz.prog 53 #[.pointer (some ⟨fb, 0, none⟩), .int .i64 tq] w fun e w' => e = .returned (.tuple #[]) ∧ ∃ F', Ext (fb :: mb :: F) w w' ∧ Fr w (fb :: mb :: F) (fb :: mb :: F') ∧ (oFi fb mb F' s tq).P w' := by
  have HP := Lib.hid hP
  clear hP
  go_enter Tryz.func53, Tryz.ntmps53
  go_wp2_with fail
  go_loopg [6] (tq - nx) (fun g _ wr => ∃ (i : Nat) (F' : List Nat), g + i = tq ∧ i ≤ tq ∧ Ext (fb :: mb :: F) w wr ∧ Fr w (fb :: mb :: F) (fb :: mb :: F') ∧ (oFi fb mb F' s i).P wr)
  case atStart => exact ⟨nx, F, by omega, h1, Ext.refl _ _, Fr.refl _ _, HP.out⟩
  case round =>
    clear HP
    obtain ⟨i, F', hgi, hit, hx, hfr, hp⟩ := hrel
    have hf := hp.1
    have c2 : wr.cell? ⟨fb, 2, none⟩ = some (.int .i64 i) := cellOf hf 2
    have f2 : wr.frozen? ⟨fb, 2, none⟩ = false := freeOf hf 2
    by_cases hlt : i < tq
    · have j1 : (i : Int) < (tq : Int) := by omega
      by_cases h3 : i + 3 ≤ s.size
      · have HA := Lib.hid (at_yes fb mb i i s wr hf hs h3)
        have HX := Lib.hid (⟨hx, hfr, hp⟩ : _ ∧ _ ∧ _)
        clear hx hfr hp hf
        go_wp2_with fail
        refine HA.out.mono ?_
        clear c2 f2
        rintro e w1 ⟨rfl, hx1⟩
        have hp1 := (oFi fb mb F' s i).ok HX.out.2.2 hx1 (by simp)
        have hf := hp1.1
        unfold keyV kv
        obtain ⟨a, ha⟩ : ∃ a, byteF s i = a := ⟨_, rfl⟩
        obtain ⟨b, hb⟩ : ∃ b, byteF s (i + 1) = b := ⟨_, rfl⟩
        obtain ⟨c, hc⟩ : ∃ c, byteF s (i + 2) = c := ⟨_, rfl⟩
        rw [ha, hb, hc]
        have HB := Lib.hid (⟨ha, hb, hc⟩ : _ ∧ _ ∧ _)
        have HX1 := Lib.hid (⟨hx1, hp1⟩ : _ ∧ _)
        clear ha hb hc hx1 hp1 hf
        go_upto_region 4 with (fail)
        obtain ⟨kb, hkb⟩ : ∃ kb, w1.heap.size = kb := ⟨_, rfl⟩
        obtain ⟨W2, hW2⟩ : ∃ W2, w1.alloc (.cells #[.int .u8 a.toNat, .int .u8 b.toNat, .int .u8 c.toNat] 133) = W2 := ⟨_, rfl⟩
        have hx2 : Ext [] w1 W2 := by rw [← hW2]; exact (Ext.refl _ _).alloc _
        have hk : W2.heap[kb]? = some (.cells #[u8v a, u8v b, u8v c] 133 (0, 0)) := by rw [← hW2, ← hkb]; exact heap_alloc_at _
        have hp2 := (oFi fb mb F' s i).ok HX1.out.2 hx2 (by simp)
        have hkm : kb ≠ mb := fun e => by have := (oPl mb F' s i).lt HX1.out.2.2.1 mb (by simp [oPl]); omega
        have hkF : kb ∉ F' := fun h => by have := (oPl mb F' s i).lt HX1.out.2.2.1 kb (by simp [oPl, h]); omega
        have hf := hp2.1
        rw [hW2, hkb]
        refine wp_region_perm (C := fun w' => ∃ x : TwoW fb (finder s mb (i : Int)) kb (.cells #[u8v a, u8v b, u8v c] 133 (0, 0)), w' = x.w) [0, 1, 2, 3, 4, 5, 6, 7, 8] 14 (by kernel_rfl) (by kernel_rfl) ⟨TwoW.mk W2.drew hf hk, rfl⟩ ?_
        haveI : Nonempty (TwoW fb (finder s mb (i : Int)) kb (.cells #[u8v a, u8v b, u8v c] 133 (0, 0))) := ⟨TwoW.mk W2.drew hf hk⟩
        have c1 : ∀ x : TwoW fb (finder s mb (i : Int)) kb (.cells #[u8v a, u8v b, u8v c] 133 (0, 0)), x.w.cell? ⟨fb, 1, none⟩ = some (.map (some mb)) := fun x => cellOf x.h1 1
        have c2 : ∀ x : TwoW fb (finder s mb (i : Int)) kb (.cells #[u8v a, u8v b, u8v c] 133 (0, 0)), x.w.cell? ⟨fb, 2, none⟩ = some (.int .i64 i) := fun x => cellOf x.h1 2
        have k0 : ∀ x : TwoW fb (finder s mb (i : Int)) kb (.cells #[u8v a, u8v b, u8v c] 133 (0, 0)), x.w.cell? ⟨kb, 0, none⟩ = some (u8v a) := fun x => cellOf x.h2 0
        have k1 : ∀ x : TwoW fb (finder s mb (i : Int)) kb (.cells #[u8v a, u8v b, u8v c] 133 (0, 0)), x.w.cell? ⟨kb, 1, none⟩ = some (u8v b) := fun x => cellOf x.h2 1
        have k2 : ∀ x : TwoW fb (finder s mb (i : Int)) kb (.cells #[u8v a, u8v b, u8v c] 133 (0, 0)), x.w.cell? ⟨kb, 2, none⟩ = some (u8v c) := fun x => cellOf x.h2 2
        simp only [pick, List.getElem?_toArray, List.getElem?_cons_zero, List.getElem?_cons_succ, List.drop_succ_cons, List.drop_zero]
        repeat (go_big_quiet_step (fail))
        refine wpQuiet_nil ?_
        clear c1 c2 k0 k1 k2
        refine anyC_one (f := 4) (i := 9) (by kernel_rfl) (by decide) rfl rfl (fun K hK => ?_)
        go_wp2_with fail
        obtain ⟨ob, hob⟩ : ∃ ob, W2.heap.size = ob := ⟨_, rfl⟩
        obtain ⟨A1, hA1⟩ : ∃ A1, W2.drew.alloc (.cells #[.int .i64 (i : Int)] 3) = A1 := ⟨_, rfl⟩
        have hxa : Ext [] W2 A1 := by rw [← hA1]; exact ((Ext.refl _ W2).drew).alloc _
        have hoa : A1.heap[ob]? = some (.cells #[.int .i64 (i : Int)] 3 (0, 0)) := by rw [← hA1, ← hob]; exact heap_alloc_at _
        have hfa := hxa.keep hf (by simp)
        have hka := hxa.keep hk (by simp)
        have hfa' : (W2.drew.alloc (.cells #[.int .i64 (i : Int)] 3)).heap[fb]? = some (finder s mb (i : Int)) := by rw [hA1]; exact hfa
        have hka' : (W2.drew.alloc (.cells #[.int .i64 (i : Int)] 3)).heap[kb]? = some (.cells #[u8v a, u8v b, u8v c] 133 (0, 0)) := by rw [hA1]; exact hka
        refine hK _ (W2.drew.alloc (.cells #[.int .i64 (i : Int)] 3)) ⟨TwoW.mk _ hfa' hka', rfl⟩ ?_
        clear hK K
        rw [hA1]
        rw [hob]
        have hpa := (oFi fb mb F' s i).ok hp2 hxa (by simp)
        obtain ⟨v0, st, W3, n, xs, he, hx3, hv0, hmF, hn, hrow, hstore⟩ := oPl_entry hpa.2.1 h3 (by omega)
        unfold keyV kv at he
        rw [HB.out.1, HB.out.2.1, HB.out.2.2] at he
        have hf3 := hx3.keep hfa (by simp; exact hpa.2.2.1)
        have hk3 := hx3.keep hka (by simp; exact hkm)
        have hmlt : mb < W2.heap.size := (oPl mb F' s i).lt hp2.2.1 mb (by simp [oPl])
        have ho3 := hx3.keep hoa (by simp; omega)
        refine anyC_one (f := 3) (i := 10) (by kernel_rfl) (by decide) rfl rfl (fun K hK => ?_)
        refine wp_entry_run _ _ _ rfl rfl rfl he ?_
        refine hK _ _ ⟨TwoW.mk _ hf3 hk3, rfl⟩ ?_
        clear hK K he
        obtain ⟨i0, hif, hz0, hz1, hz2⟩ := info_parts infoInt
        obtain ⟨v', w4, hr4, hown4, hgr4, _, hloc4⟩ := run_append_own_at (P := Tryz.prog) W3 0 58 58 3 i0 (.int .i64 0) 1 8 Tryz.underlying58 hif hz0 hz1 hz2 rfl (by decide) v0 n xs hrow ⟨ob, 0, none⟩ 1 1 [iv i] rfl (fun j u hu => by
          match j with
          | 0 =>
            have e : (⟨ob, 0, none⟩ : Addr).add 0 = ⟨ob, 0, none⟩ := by unfold Addr.add; split <;> simp_all
            rw [e, cellOf ho3 0, ← hu]
            rfl
          | j + 1 => simp at hu) (by simp [Value.oneCell']) (by unfold maxLen; omega) (by omega) (Nat.zero_le _)
        have hx4 : Ext v0.ownBlock.toList W3 w4 := (Ext.refl _ W3).grown hgr4 (fun k hk => .inl (by simp [hk]))
        have hv0m : ∀ g, v0.ownBlock = some g → g ≠ mb ∧ g ≠ fb ∧ g ≠ kb := fun g hg => ⟨fun e => hmF (e ▸ hv0 g hg), fun e => hpa.2.2.2 (e ▸ hv0 g hg), fun e => hkF (e ▸ hv0 g hg)⟩
        have hf4 := hx4.keep hf3 (fun h => (hv0m fb (by simpa using h)).2.1 rfl)
        have hk4 := hx4.keep hk3 (fun h => (hv0m kb (by simpa using h)).2.2 rfl)
        obtain ⟨w5, hr5, hx5, hp5⟩ := hstore w4 v' (hx4.block mb (Nat.lt_of_lt_of_le hmlt (Nat.le_trans hxa.size hx3.size)) (fun h => (hv0m mb (by simpa using h)).1 rfl)) hx4 hown4 (hloc4.imp id (fun h => ⟨_, h, Nat.le_refl _⟩))
        have hf5 := hx5.keep hf4 (by simp; exact hpa.2.2.1)
        have hv'B : ∀ g, v'.ownBlock = some g → g ∈ F' ∨ W3.heap.size ≤ g := fun g hg => by
          rcases hloc4 with h | h
          · exact .inl (hv0 g (by rw [← h]; exact hg))
          · rw [hg] at h
            injection h with h
            exact .inr (by omega)
        have hwr : w.heap.size ≤ W3.heap.size := Nat.le_trans HX.out.1.size (Nat.le_trans HX1.out.1.size (Nat.le_trans hx2.size (Nat.le_trans hxa.size hx3.size)))
        have hfb3 := lt_of_block hf3
        have hFF : fb ∉ F' ++ v'.ownBlock.toList := fun h => by
          rcases List.mem_append.1 h with h | h
          · exact hpa.2.2.2 h
          · rcases hv'B fb (by simpa using h) with h | h
            · exact hpa.2.2.2 h
            · omega
        have hx6 : Ext [fb] w5 (w5.setCell ⟨fb, 2, none⟩ (.int .i64 ((i : Int) + 1))) := (Ext.refl [fb] w5).setCell _ _ (.inl (by simp))
        have hfin : Ext (fb :: mb :: F) w (w5.setCell ⟨fb, 2, none⟩ (.int .i64 ((i : Int) + 1))) ∧ Fr w (fb :: mb :: F) (fb :: mb :: (F' ++ v'.ownBlock.toList)) ∧ (oFi fb mb (F' ++ v'.ownBlock.toList) s (i + 1)).P (w5.setCell ⟨fb, 2, none⟩ (.int .i64 ((i : Int) + 1))) := by
          refine ⟨ext_fr HX.out.1 (G := fb :: mb :: F') ?_ HX.out.2.1, fun g hg => ?_, ?_, (oPl mb (F' ++ v'.ownBlock.toList) s (i + 1)).ok hp5 hx6 (fun k hk => ?_), hpa.2.2.1, hFF⟩
          · have e1 : Ext (fb :: mb :: F') wr A1 := ((HX1.out.1.trans hx2).trans hxa).mono (fun q _ hq => by simp at hq)
            have e2 : Ext (fb :: mb :: F') A1 W3 := hx3.mono (fun q _ hq => by simp at hq; simp [hq])
            have e3 : Ext (fb :: mb :: F') W3 w4 := hx4.mono (fun q _ hq => by simp [hv0 q (by simpa using hq)])
            have e4 : Ext (fb :: mb :: F') w4 w5 := hx5.mono (fun q _ hq => by simp at hq; simp [hq])
            have e5 : Ext (fb :: mb :: F') w5 _ := hx6.mono (fun q _ hq => by simp at hq; simp [hq])
            exact (((e1.trans e2).trans e3).trans e4).trans e5
          · have hfr := HX.out.2.1
            rcases List.mem_cons.1 hg with rfl | hg
            · exact .inl (by simp)
            · rcases List.mem_cons.1 hg with rfl | hg
              · exact .inl (by simp)
              · rcases List.mem_append.1 hg with hg | hg
                · exact hfr g (by simp [hg])
                · rcases hv'B g (by simpa using hg) with h | h
                  · exact hfr g (by simp [h])
                  · exact .inr (by omega)
          · have := heap_setCell_same hf5 (i := 2) (.int .i64 ((i : Int) + 1))
            rw [this]
            unfold finder
            push_cast
            rfl
          · rw [List.mem_singleton]
            rintro rfl
            rcases List.mem_cons.1 hk with h | h
            · exact hpa.2.2.1 h
            · exact hFF h
        have HFIN := Lib.hid hfin
        have c2 : w5.cell? ⟨fb, 2, none⟩ = some (.int .i64 i) := cellOf hf5 2
        have f2 : w5.frozen? ⟨fb, 2, none⟩ = false := freeOf hf5 2
        clear hfin hFF hx6 hfb3 hwr hv'B hf5 hp5 hx5 hx4 hv0m hgr4 hown4 hloc4 hif hz0 hz1 hz2 hstore hrow hv0 hmF hpa hx3 ho3 hmlt hfa hka hfa' hka' hxa hoa hA1 hob hp2 hf hk hx2 hW2 hkb hkm hkF hn
        refine anyC_two (f := 2) (i := 11) (j := 13) (by kernel_rfl) (by decide) (by decide) rfl rfl rfl rfl (fun K hK => ?_) (fun K hK => ?_)
        · go_wp2_with fail
          refine hK _ _ ⟨TwoW.mk _ hf3 hk3, rfl⟩ ?_
          clear hK K
          refine anyC_two (f := 1) (i := 12) (j := 13) (by kernel_rfl) (by decide) (by decide) rfl rfl rfl rfl (fun K hK => ?_) (fun K hK => ?_)
          · refine wp_append_run _ _ _ _ rfl rfl rfl hr4 ?_
            refine hK _ _ ⟨TwoW.mk _ hf4 hk4, rfl⟩ ?_
            clear hK K
            refine anyC_one (f := 0) (i := 13) (by kernel_rfl) (by decide) rfl rfl (fun K hK => ?_)
            go_wp2_with fail
            refine hK _ _ ⟨TwoW.mk _ hf4 hk4, rfl⟩ ?_
            clear hK K
            refine anyC_end (by kernel_rfl) ?_
            refine wpList_plain rfl (fun K hK => wp_store_run _ _ _ _ rfl rfl rfl rfl hr5 (hK _ _ ?_))
            clear hK K hf3 hk3 hf4 hk4 hr4 hr5
            go_wp2_with fail
            refine NoPanic.normal ?_
            go_wp2_with fail
            go_roundg (tq - (i + 1))
            case measure => omega
            case rel => exact ⟨i + 1, F' ++ v'.ownBlock.toList, by omega, by omega, HFIN.out.1, HFIN.out.2.1, HFIN.out.2.2⟩
          · go_wp2_with fail
            refine hK _ _ ⟨TwoW.mk _ hf3 hk3, rfl⟩ ?_
            clear hK K
            refine anyC_one (f := 0) (i := 12) (by kernel_rfl) (by decide) rfl rfl (fun K hK => ?_)
            refine wp_append_run _ _ _ _ rfl rfl rfl hr4 ?_
            refine hK _ _ ⟨TwoW.mk _ hf4 hk4, rfl⟩ ?_
            clear hK K
            refine anyC_end (by kernel_rfl) ?_
            refine wpList_plain rfl (fun K hK => wp_store_run _ _ _ _ rfl rfl rfl rfl hr5 (hK _ _ ?_))
            clear hK K hf3 hk3 hf4 hk4 hr4 hr5
            go_wp2_with fail
            refine NoPanic.normal ?_
            go_wp2_with fail
            go_roundg (tq - (i + 1))
            case measure => omega
            case rel => exact ⟨i + 1, F' ++ v'.ownBlock.toList, by omega, by omega, HFIN.out.1, HFIN.out.2.1, HFIN.out.2.2⟩
        · go_wp2_with fail
          refine hK _ _ ⟨TwoW.mk _ hf3 hk3, rfl⟩ ?_
          clear hK K
          refine anyC_one (f := 1) (i := 11) (by kernel_rfl) (by decide) rfl rfl (fun K hK => ?_)
          go_wp2_with fail
          refine hK _ _ ⟨TwoW.mk _ hf3 hk3, rfl⟩ ?_
          clear hK K
          refine anyC_one (f := 0) (i := 12) (by kernel_rfl) (by decide) rfl rfl (fun K hK => ?_)
          refine wp_append_run _ _ _ _ rfl rfl rfl hr4 ?_
          refine hK _ _ ⟨TwoW.mk _ hf4 hk4, rfl⟩ ?_
          clear hK K
          refine anyC_end (by kernel_rfl) ?_
          refine wpList_plain rfl (fun K hK => wp_store_run _ _ _ _ rfl rfl rfl rfl hr5 (hK _ _ ?_))
          clear hK K hf3 hk3 hf4 hk4 hr4 hr5
          go_wp2_with fail
          refine NoPanic.normal ?_
          go_wp2_with fail
          go_roundg (tq - (i + 1))
          case measure => omega
          case rel => exact ⟨i + 1, F' ++ v'.ownBlock.toList, by omega, by omega, HFIN.out.1, HFIN.out.2.1, HFIN.out.2.2⟩
      · have HA := Lib.hid (at_no fb mb i i s wr hf hs (by omega) (by omega))
        have HX := Lib.hid (⟨hx, hfr, hp⟩ : _ ∧ _ ∧ _)
        clear hx hfr hp hf
        go_wp2_with fail
        refine HA.out.mono ?_
        clear c2 f2
        rintro e w1 ⟨rfl, hx1⟩
        have hp1 := (oFi fb mb F' s i).ok HX.out.2.2 hx1 (by simp)
        unfold kv
        have HX1 := Lib.hid (⟨hx1, hp1⟩ : _ ∧ _)
        clear hx1 hp1
        go_upto_region 3 with (fail)
        obtain ⟨W2, hW2⟩ : ∃ W2, w1.alloc (.cells #[.int .u8 0, .int .u8 0, .int .u8 0] 133) = W2 := ⟨_, rfl⟩
        have hx2 : Ext [] w1 W2 := by rw [← hW2]; exact (Ext.refl _ _).alloc _
        have hp2 := (oFi fb mb F' s i).ok HX1.out.2 hx2 (by simp)
        try simp only [UInt8.toNat_zero, Int.natCast_zero, UInt8.reduceToNat, Nat.cast_ofNat_Int]
        rw [hW2]
        have hf5 := hp2.1
        have c2 : W2.cell? ⟨fb, 2, none⟩ = some (.int .i64 i) := cellOf hf5 2
        have f2 : W2.frozen? ⟨fb, 2, none⟩ = false := freeOf hf5 2
        have hx6 : Ext [fb] W2 (W2.setCell ⟨fb, 2, none⟩ (.int .i64 ((i : Int) + 1))) := (Ext.refl [fb] W2).setCell _ _ (.inl (by simp))
        have hfin : Ext (fb :: mb :: F) w (W2.setCell ⟨fb, 2, none⟩ (.int .i64 ((i : Int) + 1))) ∧ Fr w (fb :: mb :: F) (fb :: mb :: F') ∧ (oFi fb mb F' s (i + 1)).P (W2.setCell ⟨fb, 2, none⟩ (.int .i64 ((i : Int) + 1))) := by
          refine ⟨ext_fr HX.out.1 (G := fb :: mb :: F') ?_ HX.out.2.1, HX.out.2.1, ?_, (oPl mb F' s (i + 1)).ok (oPl_skip hp2.2.1 (by omega)) hx6 (fun k hk => ?_), hp2.2.2.1, hp2.2.2.2⟩
          · have e1 : Ext (fb :: mb :: F') wr W2 := (HX1.out.1.trans hx2).mono (fun q _ hq => by simp at hq)
            have e5 : Ext (fb :: mb :: F') W2 _ := hx6.mono (fun q _ hq => by simp at hq; simp [hq])
            exact e1.trans e5
          · have := heap_setCell_same hf5 (i := 2) (.int .i64 ((i : Int) + 1))
            rw [this]
            unfold finder
            push_cast
            rfl
          · rw [List.mem_singleton]
            rintro rfl
            rcases List.mem_cons.1 hk with h | h
            · exact hp2.2.2.1 h
            · exact hp2.2.2.2 h
        have HFIN := Lib.hid hfin
        clear hfin hx6 hf5 hp2 hx2 hW2
        go_wp2_with fail
        go_roundg (tq - (i + 1))
        case measure => omega
        case rel => exact ⟨i + 1, F', by omega, by omega, HFIN.out.1, HFIN.out.2.1, HFIN.out.2.2⟩
    · obtain rfl : i = tq := by omega
      have j1 : (i : Int) ≤ (i : Int) := Int.le_refl _
      have HX := Lib.hid (⟨hx, hfr, hp⟩ : _ ∧ _ ∧ _)
      clear hx hfr hp hf
      go_wp2_with fail
      go_end0
      exact ⟨rfl, F', HX.out.1, HX.out.2.1, HX.out.2.2⟩
end Go.Proofs.YtnapnaaejignaaaGreat.Mt

/-! MtE: slices.Backward over whole numbers: what its iterator promises. -/
namespace Go.Proofs.YtnapnaaejignaaaGreat.Mt
open Go.RowKit
attribute [local go_sem] Oper.semAt_some

def bxN (v : Value) : Obj := .cells #[v] 58 (0, 0)
set_option maxHeartbeats 4000000 in
theorem back_walk (p : Option Addr) (n cap : Nat) (w : World) :
    Calls Tryz.prog 77 #[.slice p n cap] w fun e w' => e = .returned (.func (.func 100) #[] #[.pointer (some ⟨w.heap.size, 0, none⟩)]) ∧ w' = w.alloc (bxN (.slice p n cap)) := by
  go_enter Tryz.func77, Tryz.ntmps77
  go_wp2_with fail
  go_ret
  exact ⟨rfl, rfl⟩
theorem range_split {j rows : Nat} (h : j < rows) : ∃ post, List.range rows = List.range j ++ j :: post := by
  refine ⟨(List.range rows).drop (j + 1), ?_⟩
  have h1 := List.take_append_drop j (List.range rows)
  rw [List.take_range, Nat.min_eq_left (by omega), List.drop_eq_getElem_cons (by simpa using h)] at h1
  simpa using h1.symm
/-- the j-th from behind -/
def encB (n : Nat) (vs : Nat → Nat) (j : Nat) : Array Value := #[.int .i64 ((n : Int) - 1 - (j : Int)), iv (vs (n - 1 - j))]
set_option maxRecDepth 100000 in
set_option maxHeartbeats 8000000 in
theorem back_iter (n cap b1 g : Nat) (p : Option Addr) (vs : Nat → Nat) (cs : Array Value) (hn : n ≤ 1048576) (hp : 1 ≤ n → p = some ⟨g, 0, none⟩) (hcs : ∀ j, j < n → cs[j]? = some (iv (vs j))) :
    SeqX Tryz.prog 100 #[.pointer (some ⟨b1, 0, none⟩)] (encB n vs) (List.range n) [] [b1, g] (fun W => W.heap[b1]? = some (bxN (.slice p n cap)) ∧ (1 ≤ n → W.heap[g]? = some (.cells cs 3 (0, 0)))) := by
  intro l J Jx W hb hJ hJx hY h0
  obtain ⟨hb1, hb2⟩ := hb
  have H0 := Lib.hid h0
  have HY := Lib.hid hY
  have HJ := Lib.hid hJ
  have HCS := Lib.hid hcs
  have HPP := Lib.hid hp
  have HB := Lib.hid (⟨hb1, hb2⟩ : _ ∧ _)
  have c0 := cellOf hb1 0
  clear h0 hY hJ hJx hb1 hb2 hcs hp
  refine callsIn_of_wp Tryz.func100 rfl trivial ?_
  simp only [Tryz.ntmps100, List.size_toArray, List.length_cons, List.length_nil, Nat.reduceAdd, Nat.reduceSub, Array.replicate_succ, Array.replicate_zero, List.push_toArray, List.append_toArray, List.nil_append, List.cons_append]
  gi_wp2_with fail
  clear c0
  gi_loopg [3] n (fun k iv' wr => ∃ j : Nat, k + j = n ∧ iv' = .int .i64 ((n : Int) - 1 - (j : Int)) ∧ wr.heap[b1]? = some (bxN (.slice p n cap)) ∧ (1 ≤ n → wr.heap[g]? = some (.cells cs 3 (0, 0))) ∧ J (List.range j) wr)
  case atStart => exact ⟨0, by omega, by go_num, HB.out.1, HB.out.2, H0.out⟩
  case round =>
    obtain ⟨j, hg, rfl, hb1, hb2, hj⟩ := hrel
    have HJ0 := Lib.hid hj
    have c1 := cellOf hb1 0
    clear hj
    by_cases hlt : j < n
    · obtain rfl := HPP.out (by omega)
      have hb2' := hb2 (by omega)
      obtain ⟨u, hu⟩ : ∃ u, n - 1 - j = u := ⟨_, rfl⟩
      have hui : (n : Int) - 1 - (j : Int) = (u : Int) := by omega
      have hun : u < n := by omega
      have c2 : wr.cell? ⟨g, u, none⟩ = some (.int .i64 (vs u : Nat)) := by rw [cellOf hb2', HCS.out u hun]
      obtain ⟨post, hsp⟩ := range_split hlt
      have hy := HY.out (List.range j) j post wr hsp HJ0.out
      have HSP := Lib.hid hsp
      clear hsp
      obtain ⟨fn, tmps, assign, body, hy, hR⟩ := hy
      unfold encB at hy
      rw [hui, hu] at hy
      have HR := Lib.hid hR
      have HB1 := Lib.hid (⟨hb1, hb2'⟩ : _ ∧ _)
      have i1 : (0 : Int) ≤ (u : Int) := by omega
      have i2 : (u : Int) < (n : Int) := by omega
      clear hR hb1 hb2 hb2' hu
      rw [hui]
      gi_wp2_with fail
      refine HR.out.mono ?_
      clear hy HR c1 c2
      rintro e w4 (⟨rfl, hj3, hk3⟩ | ⟨rfl, hj3⟩)
      · have hb3 := (hk3.same b1 (by simp)).trans HB1.out.1
        have hb4 := (hk3.same g (by simp)).trans HB1.out.2
        have HJ3 := Lib.hid hj3
        have HB3 := Lib.hid hb3
        have HB4 := Lib.hid hb4
        clear hj3 hb3 hb4 hk3
        gi_wp2_with fail
        gi_roundg (n - (j + 1))
        case measure => omega
        case rel => exact ⟨j + 1, by omega, by go_num, HB3.out, fun _ => HB4.out, by rw [List.range_succ]; exact HJ3.out⟩
      · gi_wp2_with fail
        refine bodyPost_ret (results_none rfl _ _ _) rfl ?_
        exact ⟨⟨_, rfl⟩, .inr ⟨List.range j, j, post, HSP.out, hj3⟩⟩
    · have e2 : j = n := by omega
      have HJ1 := Lib.hid (e2 ▸ HJ0.out)
      have i0 : (n : Int) - 1 - (j : Int) < 0 := by omega
      clear HJ0 e2 hb2 hb1
      gi_wp2_with fail
      go_end0
      exact ⟨⟨_, rfl⟩, .inl HJ1.out⟩
end Go.Proofs.YtnapnaaejignaaaGreat.Mt

/-! MtF: match: 'find' walked. -/
namespace Go.Proofs.YtnapnaaejignaaaGreat.Mt
open Go.RowKit Go.Maps Go.WideElems Go.ChangeMaps Go.WideShapes Go.ChangeShapes
attribute [local go_sem] Oper.semAt_some

/-- the longest of the matches that are still to be looked at, and of the one found: the nearest of those -/
def findL (s : ByteArray) (p : Nat) : List Nat → Nat × Nat → Nat × Nat
  | [], st => st
  | f :: r, st => if 32768 < p - f ∨ st.1 = 258 then st else findL s p r (if st.1 < longN s f p then (longN s f p, p - f) else st)
def findN (s : ByteArray) (p : Nat) : Nat × Nat := if p + 3 ≤ s.size then findL s p (plc s p (byteF s p) (byteF s (p + 1)) (byteF s (p + 2))).reverse (0, 0) else (0, 0)
theorem plc_lt (s : ByteArray) (p : Nat) (a b c : UInt8) (j : Nat) (h : j ∈ plc s p a b c) : j < p := by
  unfold plc at h
  exact List.mem_range.1 (List.mem_filter.1 h).1
theorem longF_le (s : ByteArray) (a b : Nat) : ∀ k n, n ≤ 258 → longF s a b k n ≤ 258
  | 0, n, h => h
  | k + 1, n, h => by
    rw [longF]
    split
    · exact longF_le s a b k (n + 1) (by omega)
    · exact h
theorem longN_le (s : ByteArray) (a b : Nat) : longN s a b ≤ 258 := longF_le s a b 259 0 (by omega)
set_option maxRecDepth 100000 in
/-- what the map tells of a key -/
theorem oPl_look {w : World} {mb : Nat} {F : List Nat} {s : ByteArray} {i : Nat} (h : (oPl mb F s i).P w) (a b c : UInt8) :
    ∃ v, (∀ x : Ex w, (Instr.lookup 99 (.map (some mb)) (kv a b c) false).run Tryz.prog x.w = .ok v x.w) ∧ w.ownsRow 0 3 1 v (plc s i a b c).length ((plc s i a b c).map iv) ∧ ∀ g, v.ownBlock = some g → g ∈ F := by
  obtain ⟨h1, h2, D, val, ho, h4⟩ := h
  obtain ⟨k1, k2, k3, k4⟩ := h4 a b c
  refine ⟨val a b c, fun x => ?_, k2, k3⟩
  obtain ⟨v, hr, hv⟩ := map_look (map_ext ho x.ext (by simp)) (kv_key a b c)
  rw [k1] at hv
  injection hv with hv
  rw [hv]
  exact hr
/-! ### the walks -/
theorem results_ints {fn : Func} {p q : Tmp} (h : fn.results = #[.cell p 3, .cell q 3]) (tmps : Array Value) (w : World) (b1 b2 : Nat) (v1 v2 : Value) (h1 : tmps.getD p undef = .pointer (some ⟨b1, 0, none⟩)) (h2 : tmps.getD q undef = .pointer (some ⟨b2, 0, none⟩)) (c1 : w.cell? ⟨b1, 0, none⟩ = some v1) (c2 : w.cell? ⟨b2, 0, none⟩ = some v2) :
    (results fn tmps).run Tryz.prog w = .ok (.tuple #[v1, v2]) w := by
  have e1 : tmps[p]?.getD undef = .pointer (some ⟨b1, 0, none⟩) := by simpa using h1
  have e2 : tmps[q]?.getD undef = .pointer (some ⟨b2, 0, none⟩) := by simpa using h2
  have r1 : (loadVar 3 ⟨b1, 0, none⟩).run Tryz.prog w = .ok v1 w := by
    simp [loadVar, c1, go_sem]
  have r2 : (loadVar 3 ⟨b2, 0, none⟩).run Tryz.prog w = .ok v2 w := by
    simp [loadVar, c2, go_sem]
  simp [results, h, e1, e2, asAddr, r1, r2]
set_option maxRecDepth 100000 in
set_option maxHeartbeats 8000000 in
theorem find_no (fb mb p : Nat) (F : List Nat) (s : ByteArray) (w : World) (hP : (oFi fb mb F s p).P w) (hs : s.size ≤ 1048576) (hp : p ≤ s.size) (h3 : s.size < p + 3) :
    Calls Tryz.prog 54 #[.pointer (some ⟨fb, 0, none⟩), .int .i64 p] w fun e w' => e = .returned (.tuple #[.int .i64 0, .int .i64 0]) ∧ Ext [] w w' := by
  have HP := Lib.hid hP
  clear hP
  go_enter Tryz.func54, Tryz.ntmps54
  go_upto_region 1 with (fail)
  have S := Sep.start w
  have S := S.new ((Ext.refl _ _).alloc (.cells #[.pointer (some ⟨fb, 0, none⟩)] 98)) (Ob.one (w.heap.size) (.cells #[.pointer (some ⟨fb, 0, none⟩)] 98 (0, 0))) (heap_alloc_at _) (fun q hq => by rw [List.mem_singleton.1 hq]; simp)
  have S := S.new ((Ext.refl _ _).alloc (.cells #[.int .i64 (p : Int)] 3)) (Ob.one (w.heap.size + 1) (.cells #[.int .i64 (p : Int)] 3 (0, 0))) (by
    have h := heap_alloc_at (w := (w.alloc (.cells #[.pointer (some ⟨fb, 0, none⟩)] 98))) (.cells #[.int .i64 (p : Int)] 3)
    rw [show (w.alloc (.cells #[.pointer (some ⟨fb, 0, none⟩)] 98)).heap.size = w.heap.size + 1 from by simp] at h
    exact h) (fun q hq => by rw [List.mem_singleton.1 hq]; simp)
  have S := S.new ((Ext.refl _ _).alloc (.cells #[.int .i64 0] 3)) (Ob.one (w.heap.size + 1 + 1) (.cells #[.int .i64 0] 3 (0, 0))) (by
    have h := heap_alloc_at (w := ((w.alloc (.cells #[.pointer (some ⟨fb, 0, none⟩)] 98)).alloc (.cells #[.int .i64 (p : Int)] 3))) (.cells #[.int .i64 0] 3)
    rw [show ((w.alloc (.cells #[.pointer (some ⟨fb, 0, none⟩)] 98)).alloc (.cells #[.int .i64 (p : Int)] 3)).heap.size = w.heap.size + 1 + 1 from by simp] at h
    exact h) (fun q hq => by rw [List.mem_singleton.1 hq]; simp)
  have S := S.new ((Ext.refl _ _).alloc (.cells #[.int .i64 0] 3)) (Ob.one (w.heap.size + 1 + 1 + 1) (.cells #[.int .i64 0] 3 (0, 0))) (by
    have h := heap_alloc_at (w := (((w.alloc (.cells #[.pointer (some ⟨fb, 0, none⟩)] 98)).alloc (.cells #[.int .i64 (p : Int)] 3)).alloc (.cells #[.int .i64 0] 3))) (.cells #[.int .i64 0] 3)
    rw [show (((w.alloc (.cells #[.pointer (some ⟨fb, 0, none⟩)] 98)).alloc (.cells #[.int .i64 (p : Int)] 3)).alloc (.cells #[.int .i64 0] 3)).heap.size = w.heap.size + 1 + 1 + 1 from by simp] at h
    exact h) (fun q hq => by rw [List.mem_singleton.1 hq]; simp)
  obtain ⟨W0, hW0⟩ : ∃ W0, ((((w.alloc (.cells #[.pointer (some ⟨fb, 0, none⟩)] 98)).alloc (.cells #[.int .i64 (p : Int)] 3)).alloc (.cells #[.int .i64 0] 3)).alloc (.cells #[.int .i64 0] 3)) = W0 := ⟨_, rfl⟩
  obtain ⟨qb, hqb⟩ : ∃ qb, w.heap.size = qb := ⟨_, rfl⟩
  rw [hW0, hqb] at S
  rw [hW0, hqb]
  have HSp := Lib.hid S
  have q0 : W0.cell? ⟨qb, 0, none⟩ = some (.pointer (some ⟨fb, 0, none⟩)) := cellOf (S.get 3 rfl) 0
  have q1 : W0.cell? ⟨qb + 1, 0, none⟩ = some (.int .i64 (p : Int)) := cellOf (S.get 2 rfl) 0
  have hp0 := (oFi fb mb F s p).ok HP.out S.ext (by simp)
  clear S hW0 hqb
  have HA := Lib.hid (at_no fb mb p p s W0 hp0.1 hs hp h3)
  clear hp0
  go_wp2_with fail
  refine HA.out.mono ?_
  clear q0 q1
  rintro e w1 ⟨rfl, hx1⟩
  unfold kv
  have Sp := HSp.out.quiet hx1
  have HSp := Lib.hid Sp
  clear Sp hx1
  go_upto_region 2 with (fail)
  have Sp := HSp.out.quiet ((Ext.refl _ w1).alloc (.cells #[.int .u8 0, .int .u8 0, .int .u8 0] 133))
  obtain ⟨W2, hW2⟩ : ∃ W2, w1.alloc (.cells #[.int .u8 0, .int .u8 0, .int .u8 0] 133) = W2 := ⟨_, rfl⟩
  rw [hW2] at Sp
  rw [hW2]
  have r1 := Sp.get 1 rfl
  have r2 := Sp.get 0 rfl
  have c1 : W2.cell? ⟨qb + 1 + 1, 0, none⟩ = some (.int .i64 0) := cellOf r1 0
  have c2 : W2.cell? ⟨qb + 1 + 1 + 1, 0, none⟩ = some (.int .i64 0) := cellOf r2 0
  have f1 : W2.frozen? ⟨qb + 1 + 1, 0, none⟩ = false := freeOf r1 0
  have f2 : W2.frozen? ⟨qb + 1 + 1 + 1, 0, none⟩ = false := freeOf r2 0
  have Sp2 := Sp.upd 1 (Ob.one (qb + 1 + 1) (.cells #[.int .i64 0] 3 (0, 0))) rfl ((Ext.refl [qb + 1 + 1] W2).setCell ⟨qb + 1 + 1, 0, none⟩ (.int .i64 0) (.inl (by simp))) (Fr.refl _ _) (heap_setCell_same r1 _)
  have Sp3 := Sp2.upd 0 (Ob.one (qb + 1 + 1 + 1) (.cells #[.int .i64 0] 3 (0, 0))) rfl ((Ext.refl [qb + 1 + 1 + 1] _).setCell ⟨qb + 1 + 1 + 1, 0, none⟩ (.int .i64 0) (.inl (by simp))) (Fr.refl _ _) (heap_setCell_same (Sp2.get 0 rfl) _)
  have HS := Lib.hid Sp3
  clear Sp Sp2 Sp3 r1 r2 hW2
  go_wp2_with fail
  exact bodyPost_ret (results_ints rfl _ _ (qb + 1 + 1) (qb + 1 + 1 + 1) (.int .i64 0) (.int .i64 0) rfl rfl (cellOf (HS.out.get 1 rfl) 0) (cellOf (HS.out.get 0 rfl) 0)) rfl ⟨rfl, HS.out.ext⟩
section
variable {P : Program} {C : World → Prop} {Q : Exit → Go.Act → World → Prop}
/-- a region that only reads and calls quietly, in a round -/
theorem rnd_quiet {lr k id : Nat} {a : Go.Act} {w : World} {l : List Oper} (hm : P.follows .mixedOrders = true) (hB : Region.lexB .any l.toArray = true) (hd : l.all noDefer = true) (hL : ¬ LetsOut Q) (hC : C { w with drawn := w.drawn + 1 })
    (h : wpQuiet P l.toArray C (fun a' => ∀ w', C w' → Q .normal a' w') l a) : (Code.region id l.toArray true).wpIn (rnd lr) k P Q a w := by
  simp only [Region.lexB, Bool.and_eq_true] at hB
  refine rnd_any hm hd hL (wpAny_of_quiet (Q := fun a' => ∀ w', C w' → Q .normal a' w') (fun _ w' hw' h => h w' hw') _ _ _ _ hC ?_)
  have := wpAnyQ_lex (C := C) (md := .any) hB.1 l.toArray.toList 0 (Array.replicate l.toArray.size false) a (by simp) (by simpa using hB.2) (by simpa using h)
  simpa using this
/-- reads and quiet calls, then a forced tail, in a round -/
theorem rnd_quiet_tail {lr k id : Nat} {a : Go.Act} {w : World} {l : List Oper} (m : Nat) (hm : P.follows .mixedOrders = true) (hB : Region.lexTailB .any l.toArray m = true) (hd : l.all noDefer = true) (hL : ¬ LetsOut Q) (hC : C { w with drawn := w.drawn + 1 })
    (h : wpQuiet P l.toArray C (fun a' => ∀ w', C w' → wpList P l.toArray Q (l.drop m) a' w') (l.take m) a) : (Code.region id l.toArray true).wpIn (rnd lr) k P Q a w := by
  simp only [Region.lexTailB, Bool.and_eq_true, decide_eq_true_eq] at hB
  obtain ⟨⟨⟨⟨hsel, hn⟩, hs⟩, hc⟩, hlex⟩ := hB
  have hn' : m < l.length := by simpa using hn
  have htl : (l.take m).length = m := by simp; omega
  have hdl : (l.drop m).length = l.toArray.size - m := by simp
  have H := anyB_lex (md := .any) (g := l.toArray.size - m) hsel hs hc hn (l.take m) 0 _ a (fun j hj => by
    have hj' : j < m := by rw [htl] at hj; exact hj
    simp [hj']) (by simpa using htl) (headInv_start l m) (by rw [htl]; exact hlex) h
  refine rnd_any hm hd hL ?_
  have := wpAny_of_anyB (Q := Q) (g := l.toArray.size - m) (fun listed a' w' hw' hL => by
    have := wpAny_of_seq (md := .any) (Q' := Q) (l.drop m) m listed a' w' (fun j => by simp [List.getElem?_drop]) (by rw [hdl]; exact hL.1) (hL.2 w' hw')
    rwa [hdl] at this) _ _ _ _ hC H
  rw [htl, show m + (l.toArray.size - m) = l.toArray.size by omega] at this
  exact this
end
theorem range_pre {rows : Nat} {pre post : List Nat} {x : Nat} (h : List.range rows = pre ++ x :: post) : pre = List.range x ∧ pre.length = x ∧ x < rows := by
  have hl : pre.length < rows := by
    have := congrArg List.length h
    simp at this; omega
  have h1 := congrArg (fun l => l[pre.length]?) h
  simp only [List.getElem?_range hl, List.getElem?_append_right (Nat.le_refl _), Nat.sub_self, List.getElem?_cons_zero, Option.some.injEq] at h1
  have h2 := congrArg (List.take pre.length) h
  rw [List.take_range, Nat.min_eq_left (by omega), List.take_left] at h2
  subst h1
  exact ⟨h2.symm, rfl, hl⟩
def Ob.keep (W : World) (l : List Nat) : Ob where
  F := l
  P := fun w => W.heap.size ≤ w.heap.size ∧ ∀ k ∈ l, k < w.heap.size ∧ w.heap[k]? = W.heap[k]?
  ok := fun h hx hS => ⟨Nat.le_trans h.1 hx.size, fun k hk => ⟨Nat.lt_of_lt_of_le (h.2 k hk).1 hx.size, (hx.block k (h.2 k hk).1 (hS k hk)).trans (h.2 k hk).2⟩⟩
  lt := fun h k hk => (h.2 k hk).1
theorem keep_start {w W : World} {L : List Ob} {l : List Nat} (Sp : Sep w W L) (i : Nat) (hL : L[i]? = some (Ob.room l)) : Sep w W (L.set i (Ob.keep W l)) :=
  Sp.upd i (Ob.keep W l) hL (Ext.refl _ _) (Fr.refl _ _) ⟨Nat.le_refl _, fun k hk => ⟨Sp.get i hL k hk, rfl⟩⟩
theorem keep_end {w W W' : World} {L : List Ob} {l : List Nat} (Sp : Sep w W' L) (i : Nat) (hL : L[i]? = some (Ob.keep W l)) : KeepsT l W W' ∧ Sep w W' (L.set i (Ob.room l)) :=
  ⟨⟨(Sp.get i hL).1, fun k hk => ((Sp.get i hL).2 k hk).2⟩, Sp.upd i (Ob.room l) hL (Ext.refl _ _) (Fr.refl _ _) (fun k hk => ((Sp.get i hL).2 k hk).1)⟩

/-- a row of places, taken apart -/
theorem row_parts {w : World} {v : Value} {l : List Nat} (d : Nat) (hd : d < w.heap.size) (h : w.ownsRow 0 3 1 v l.length (l.map iv)) :
    ∃ q cap g cs, v = .slice q l.length cap ∧ g < w.heap.size ∧ (1 ≤ l.length → q = some ⟨g, 0, none⟩) ∧ (1 ≤ l.length → w.heap[g]? = some (.cells cs 3 (0, 0))) ∧ ∀ j, j < l.length → cs[j]? = some (iv (l.getD j 0)) := by
  rcases h.2 with ⟨rfl, hn⟩ | ⟨g, cap, cs, rfl, _, hg, hnc, hcap, hsz, ht⟩
  · exact ⟨none, 0, d, #[], by rw [hn], hd, fun h => by omega, fun h => by omega, fun j hj => by omega⟩
  · refine ⟨_, cap, g, cs, rfl, lt_of_block hg, fun _ => rfl, fun _ => hg, fun j hj => ?_⟩
    rw [Nat.mul_one] at ht
    have e : cs[j]? = (cs.toList.take l.length)[j]? := by rw [List.getElem?_take, if_pos hj, Array.getElem?_toList]
    rw [e, ht, List.getElem?_map, List.getD_eq_getElem?_getD, List.getElem?_eq_getElem hj]
    rfl
theorem oPl_mb {w : World} {mb : Nat} {F : List Nat} {s : ByteArray} {i : Nat} (h : (oPl mb F s i).P w) : mb < w.heap.size := (oPl mb F s i).lt h mb (by simp [oPl])
set_option maxRecDepth 100000 in
set_option maxHeartbeats 8000000 in
theorem find_yes (fb mb p : Nat) (F : List Nat) (s : ByteArray) (w : World) (hP : (oFi fb mb F s p).P w) (hs : s.size ≤ 1048576) (h3 : p + 3 ≤ s.size) :
    Calls Tryz.prog 54 #[.pointer (some ⟨fb, 0, none⟩), .int .i64 p] w fun e w' => e = .returned (.tuple #[.int .i64 ((findN s p).1 : Nat), .int .i64 ((findN s p).2 : Nat)]) ∧ Ext [] w w' := by
  obtain ⟨R, hR⟩ : ∃ R, findN s p = R := ⟨_, rfl⟩
  rw [hR]
  unfold findN at hR
  rw [if_pos h3] at hR
  have HR := Lib.hid hR
  have HP := Lib.hid hP
  clear hP hR
  refine (callsIn_wide (n := 0)).1 (callsIn_of_wp_marks Tryz.func54 rfl trivial ((wpIn_wide (n := 0)).2 ?_))
  simp only [Tryz.ntmps54, List.size_toArray, List.length_cons, List.length_nil, Nat.reduceAdd, Nat.reduceSub, Array.replicate_succ, Array.replicate_zero, List.push_toArray, List.append_toArray, List.nil_append, List.cons_append]
  go_upto_region 1 with (fail)
  have S := Sep.start w
  have S := S.new ((Ext.refl _ _).alloc (.cells #[.pointer (some ⟨fb, 0, none⟩)] 98)) (Ob.one (w.heap.size) (.cells #[.pointer (some ⟨fb, 0, none⟩)] 98 (0, 0))) (heap_alloc_at _) (fun q hq => by rw [List.mem_singleton.1 hq]; simp)
  have S := S.new ((Ext.refl _ _).alloc (.cells #[.int .i64 (p : Int)] 3)) (Ob.one (w.heap.size + 1) (.cells #[.int .i64 (p : Int)] 3 (0, 0))) (by
    have h := heap_alloc_at (w := (w.alloc (.cells #[.pointer (some ⟨fb, 0, none⟩)] 98))) (.cells #[.int .i64 (p : Int)] 3)
    rw [show (w.alloc (.cells #[.pointer (some ⟨fb, 0, none⟩)] 98)).heap.size = w.heap.size + 1 from by simp] at h
    exact h) (fun q hq => by rw [List.mem_singleton.1 hq]; simp)
  have S := S.new ((Ext.refl _ _).alloc (.cells #[.int .i64 0] 3)) (Ob.one (w.heap.size + 1 + 1) (.cells #[.int .i64 0] 3 (0, 0))) (by
    have h := heap_alloc_at (w := ((w.alloc (.cells #[.pointer (some ⟨fb, 0, none⟩)] 98)).alloc (.cells #[.int .i64 (p : Int)] 3))) (.cells #[.int .i64 0] 3)
    rw [show ((w.alloc (.cells #[.pointer (some ⟨fb, 0, none⟩)] 98)).alloc (.cells #[.int .i64 (p : Int)] 3)).heap.size = w.heap.size + 1 + 1 from by simp] at h
    exact h) (fun q hq => by rw [List.mem_singleton.1 hq]; simp)
  have S := S.new ((Ext.refl _ _).alloc (.cells #[.int .i64 0] 3)) (Ob.one (w.heap.size + 1 + 1 + 1) (.cells #[.int .i64 0] 3 (0, 0))) (by
    have h := heap_alloc_at (w := (((w.alloc (.cells #[.pointer (some ⟨fb, 0, none⟩)] 98)).alloc (.cells #[.int .i64 (p : Int)] 3)).alloc (.cells #[.int .i64 0] 3))) (.cells #[.int .i64 0] 3)
    rw [show (((w.alloc (.cells #[.pointer (some ⟨fb, 0, none⟩)] 98)).alloc (.cells #[.int .i64 (p : Int)] 3)).alloc (.cells #[.int .i64 0] 3)).heap.size = w.heap.size + 1 + 1 + 1 from by simp] at h
    exact h) (fun q hq => by rw [List.mem_singleton.1 hq]; simp)
  obtain ⟨W0, hW0⟩ : ∃ W0, ((((w.alloc (.cells #[.pointer (some ⟨fb, 0, none⟩)] 98)).alloc (.cells #[.int .i64 (p : Int)] 3)).alloc (.cells #[.int .i64 0] 3)).alloc (.cells #[.int .i64 0] 3)) = W0 := ⟨_, rfl⟩
  obtain ⟨qb, hqb⟩ : ∃ qb, w.heap.size = qb := ⟨_, rfl⟩
  rw [hW0, hqb] at S
  rw [hW0, hqb]
  have HSp := Lib.hid S
  have q0 : W0.cell? ⟨qb, 0, none⟩ = some (.pointer (some ⟨fb, 0, none⟩)) := cellOf (S.get 3 rfl) 0
  have q1 : W0.cell? ⟨qb + 1, 0, none⟩ = some (.int .i64 (p : Int)) := cellOf (S.get 2 rfl) 0
  have hp0 := (oFi fb mb F s p).ok HP.out S.ext (by simp)
  clear S hW0 hqb
  have HA := Lib.hid (at_yes fb mb p p s W0 hp0.1 hs h3)
  clear hp0
  go_wp2_with fail
  refine HA.out.mono ?_
  clear q0 q1
  rintro e w1 ⟨rfl, hx1⟩
  unfold keyV kv
  have Sp := HSp.out.quiet hx1
  have hR := HR.out
  obtain ⟨a, ha⟩ : ∃ a, byteF s p = a := ⟨_, rfl⟩
  obtain ⟨b, hb⟩ : ∃ b, byteF s (p + 1) = b := ⟨_, rfl⟩
  obtain ⟨c, hc⟩ : ∃ c, byteF s (p + 2) = c := ⟨_, rfl⟩
  rw [ha, hb, hc] at hR ⊢
  have HSp := Lib.hid Sp
  have HR := Lib.hid hR
  clear Sp hx1 ha hb hc hR
  go_upto_region 4 with (fail)
  have Sp := HSp.out.new ((Ext.refl _ w1).alloc (.cells #[.int .u8 a.toNat, .int .u8 b.toNat, .int .u8 c.toNat] 133)) (Ob.one w1.heap.size (.cells #[u8v a, u8v b, u8v c] 133 (0, 0))) (heap_alloc_at _) (fun q hq => by rw [List.mem_singleton.1 hq]; exact Nat.le_refl _)
  obtain ⟨W2, hW2⟩ : ∃ W2, w1.alloc (.cells #[.int .u8 a.toNat, .int .u8 b.toNat, .int .u8 c.toNat] 133) = W2 := ⟨_, rfl⟩
  obtain ⟨kb, hkb⟩ : ∃ kb, w1.heap.size = kb := ⟨_, rfl⟩
  rw [hW2, hkb] at Sp
  rw [hW2, hkb]
  have hp2 := (oFi fb mb F s p).ok HP.out Sp.ext (by simp)
  have hlt9 := fun j => plc_lt s p a b c j
  have hpl9 := plc_len s p a b c
  obtain ⟨v, hlook0, hrow, hvF⟩ := oPl_look HP.out.2.1 a b c
  have hlook := fun x : Ex W2 => hlook0 (Ex.mk _ (Sp.ext.trans x.ext))
  obtain ⟨l, hl⟩ : ∃ l, plc s p a b c = l := ⟨_, rfl⟩
  have hR := HR.out
  rw [hl] at hrow hR hlt9 hpl9
  obtain ⟨q, cap, g, cs, rfl, hg1, hq1, hq2, hq3⟩ := row_parts mb (oPl_mb HP.out.2.1) hrow
  unfold kv at hlook
  simp only [show ∀ x : Ex W2, (Ex.mk _ (Sp.ext.trans x.ext) : Ex w).w = x.w from fun _ => rfl] at hlook
  have g0 : ∀ x : Ex W2, x.w.cell? ⟨qb, 0, none⟩ = some (.pointer (some ⟨fb, 0, none⟩)) := fun x => cellOf (x.heap (Sp.get 4 rfl)) 0
  have g1 : ∀ x : Ex W2, x.w.cell? ⟨fb, 1, none⟩ = some (.map (some mb)) := fun x => cellOf (x.heap hp2.1) 1
  have k0 : ∀ x : Ex W2, x.w.cell? ⟨kb, 0, none⟩ = some (u8v a) := fun x => cellOf (x.heap (Sp.get 0 rfl)) 0
  have k1 : ∀ x : Ex W2, x.w.cell? ⟨kb, 1, none⟩ = some (u8v b) := fun x => cellOf (x.heap (Sp.get 0 rfl)) 1
  have k2 : ∀ x : Ex W2, x.w.cell? ⟨kb, 2, none⟩ = some (u8v c) := fun x => cellOf (x.heap (Sp.get 0 rfl)) 2
  have HSp := Lib.hid Sp
  have HQ := Lib.hid (⟨hg1, hq1, hq2, hq3⟩ : _ ∧ _ ∧ _ ∧ _)
  have HR := Lib.hid hR
  have HL := Lib.hid (⟨hlt9, hpl9⟩ : _ ∧ _)
  have HF := Lib.hid hp2
  clear Sp hW2 hkb hg1 hq1 hq2 hq3 hR hlt9 hpl9 hp2 hrow hvF hl hlook0
  refine wp_region_quiet_tail (C := fun w' => ∃ x : Ex W2, w' = x.w) 6 (by kernel_rfl) (by kernel_rfl) ⟨Ex.mk _ ((Ext.refl [] W2).drew), rfl⟩ ?_
  simp only [List.take_succ_cons, List.take_zero, List.drop_succ_cons, List.drop_zero]
  repeat (go_big_quiet_step (fail))
  refine wpQuiet_nil ?_
  clear g0 g1 k0 k1 k2 hlook
  rintro _ ⟨x6, rfl⟩
  obtain ⟨w6, hw6⟩ : ∃ w6, x6.w = w6 := ⟨_, rfl⟩
  have hx6 := x6.ext
  rw [hw6] at hx6
  rw [hw6]
  clear hw6
  go_wp2_with fail
  refine (back_walk q l.length cap w6).mono ?_
  rintro e w7 ⟨rfl, rfl⟩
  go_wp2_with fail
  have S6 := HSp.out.quiet hx6
  obtain ⟨A, hA⟩ : ∃ A, w6.alloc (bxN (.slice q l.length cap)) = A := ⟨_, rfl⟩
  have hxA : Ext [] w6 A := by rw [← hA]; exact (Ext.refl _ _).alloc _
  have hAs : A.heap.size = w6.heap.size + 1 := by rw [← hA]; simp
  have hbA : A.heap[w6.heap.size]? = some (bxN (.slice q l.length cap)) := by rw [← hA]; exact heap_alloc_at _
  obtain ⟨b1, hb1⟩ : ∃ b1, w6.heap.size = b1 := ⟨_, rfl⟩
  rw [hb1] at hbA hAs
  rw [hA, hb1]
  obtain ⟨hg1, hq1, hq2, hq3⟩ := HQ.out
  have hxw : Ext [] w A := S6.ext.trans hxA
  have hgA : 1 ≤ l.length → A.heap[g]? = some (.cells cs 3 (0, 0)) := fun h => hxw.keep (hq2 h) (by simp)
  have hltA := lt_of_block hbA
  have hgw : g < A.heap.size := Nat.lt_of_lt_of_le hg1 hxw.size
  have HSA := Lib.hid (⟨S6, hxA, hb1, hAs⟩ : _ ∧ _ ∧ _ ∧ _)
  clear S6 hA hb1 hx6 hxA hxw hAs
  refine wp_range (gf := 100) (lb := #[.pointer (some ⟨b1, 0, none⟩)]) rfl (Go.Proofs.enters_of Tryz.func100 (by kernel_rfl) rfl) (back_iter l.length cap b1 g q (fun j => l.getD j 0) cs (by have := HL.out.2; omega) hq1 hq3) (fun _ => rfl)
    A.heap.size (A.heap.size + 1) rfl rfl (by simp) (by simp; omega) (fun W hx => ⟨hx.keep hbA (by simp), fun h => hx.keep (hgA h) (by simp)⟩)
    (fun pre W => ∃ st : Nat × Nat, findL s p (l.reverse.drop pre.length) st = R ∧ st.1 ≤ 258 ∧ Sep w W [Ob.room [A.heap.size, A.heap.size + 1, b1], Ob.one kb (.cells #[u8v a, u8v b, u8v c] 133 (0, 0)), Ob.one (qb + 1 + 1 + 1) (.cells #[.int .i64 (st.2 : Nat)] 3 (0, 0)), Ob.one (qb + 1 + 1) (.cells #[.int .i64 (st.1 : Nat)] 3 (0, 0)), Ob.one (qb + 1) (.cells #[.int .i64 (p : Int)] 3 (0, 0)), Ob.one qb (.cells #[.pointer (some ⟨fb, 0, none⟩)] 98 (0, 0))]) (fun cd _ W => cd = .exit 0 ∧ Sep w W [Ob.room [A.heap.size, A.heap.size + 1, b1], Ob.one kb (.cells #[u8v a, u8v b, u8v c] 133 (0, 0)), Ob.one (qb + 1 + 1 + 1) (.cells #[.int .i64 (R.2 : Nat)] 3 (0, 0)), Ob.one (qb + 1 + 1) (.cells #[.int .i64 (R.1 : Nat)] 3 (0, 0)), Ob.one (qb + 1) (.cells #[.int .i64 (p : Int)] 3 (0, 0)), Ob.one qb (.cells #[.pointer (some ⟨fb, 0, none⟩)] 98 (0, 0))])
    (fun q A' B' h hx => by
      obtain ⟨st, h1, h2, Sp⟩ := h
      exact ⟨st, h1, h2, Sp.upd 0 (Ob.room [A.heap.size, A.heap.size + 1, b1]) rfl (hx.mono (fun i _ hi => by simp at hi; show i ∈ [A.heap.size, A.heap.size + 1, b1]; simp; omega)) (Fr.refl _ _) (fun k hk => Nat.lt_of_lt_of_le (Sp.get 0 rfl k hk) hx.size)⟩)
    (fun cd q A' B' h hx => ⟨h.1, h.2.upd 0 (Ob.room [A.heap.size, A.heap.size + 1, b1]) rfl (hx.mono (fun i _ hi => by simp at hi; show i ∈ [A.heap.size, A.heap.size + 1, b1]; simp; omega)) (Fr.refl _ _) (fun k hk => Nat.lt_of_lt_of_le (h.2.get 0 rfl k hk) hx.size)⟩)
    (fun W hx hw => ⟨(0, 0), HR.out, by omega, by
      obtain ⟨S6, hxA, hb1, hAs⟩ := HSA.out
      exact S6.new (hxA.trans hx) (Ob.room [A.heap.size, A.heap.size + 1, b1]) (fun k hk => by simp at hk; omega) (fun k hk => by simp [Ob.room] at hk; omega)⟩)
    (fun x => { tmps := #[.pointer (some ⟨fb, 0, none⟩), .int .i64 p, .pointer (some ⟨qb, 0, none⟩), .pointer (some ⟨qb + 1, 0, none⟩), .pointer (some ⟨qb + 1 + 1, 0, none⟩), .pointer (some ⟨qb + 1 + 1 + 1, 0, none⟩), .pointer (some ⟨kb, 0, none⟩), .bool true, undef, iv (l.getD (l.length - 1 - x) 0), undef, .tuple #[.agg #[u8v a, u8v b, u8v c], .bool true], .pointer (some ⟨fb, 0, none⟩), .int .i64 p, .tuple #[.agg #[u8v a, u8v b, u8v c], .bool true], .agg #[u8v a, u8v b, u8v c], .bool true, .bool true, .bool false, .pointer (some ⟨fb, 0, none⟩), .pointer (some ⟨fb, 0, none⟩), .pointer (some ⟨fb, 1, none⟩), .map (some mb), .agg #[u8v a, u8v b, u8v c], .slice q l.length cap, .func (.func 100) #[] #[.pointer (some ⟨b1, 0, none⟩)], .int .i64 ((l.length : Int) - 1 - (x : Int)), iv (l.getD (l.length - 1 - x) 0), undef, undef, undef, undef, undef, undef, undef, undef, undef, undef, undef, undef, undef, undef, undef, undef, undef, undef, undef, undef, undef], defers := [] }) ?assign ?body ?done ?stop
  case assign =>
    intro x W K hK
    unfold encB
    gi_wp2_with fail
    exact hK
  case stop =>
    rintro cd pre x post W hxs ⟨rfl, Sp⟩ hD
    clear hxs
    have r1 := Sp.get 3 rfl
    have r2 := Sp.get 2 rfl
    have c1 : W.cell? ⟨qb + 1 + 1, 0, none⟩ = some (.int .i64 (R.1 : Nat)) := cellOf r1 0
    have c2 : W.cell? ⟨qb + 1 + 1 + 1, 0, none⟩ = some (.int .i64 (R.2 : Nat)) := cellOf r2 0
    have f1 : W.frozen? ⟨qb + 1 + 1, 0, none⟩ = false := freeOf r1 0
    have f2 : W.frozen? ⟨qb + 1 + 1 + 1, 0, none⟩ = false := freeOf r2 0
    have HS := Lib.hid Sp
    have HDD := Lib.hid hD
    clear Sp hD r1 r2 hbA hgA hltA hgw hq1 hq2 hq3 hg1
    go_wp2_with fail
    go_region
    go_wp2_with fail
    obtain ⟨Wf, hWf⟩ : ∃ Wf, ((W.setCell ⟨qb + 1 + 1, 0, none⟩ (.int .i64 (R.1 : Nat))).setCell ⟨qb + 1 + 1 + 1, 0, none⟩ (.int .i64 (R.2 : Nat))).drew = Wf := ⟨_, rfl⟩
    have hxf : Ext [qb + 1 + 1, qb + 1 + 1 + 1] W Wf := by rw [← hWf]; exact (((Ext.refl _ W).setCell _ _ (.inl (by simp))).setCell _ _ (.inl (by simp))).drew
    have k1 : Wf.heap[qb + 1 + 1]? = some (.cells #[.int .i64 (R.1 : Nat)] 3 (0, 0)) := by rw [← hWf]; exact (heap_setCell_ne _ (by simp)).trans (heap_setCell_same (HS.out.get 3 rfl) _)
    have k2 : Wf.heap[qb + 1 + 1 + 1]? = some (.cells #[.int .i64 (R.2 : Nat)] 3 (0, 0)) := by rw [← hWf]; exact heap_setCell_same ((heap_setCell_ne _ (by simp)).trans (HS.out.get 2 rfl)) _
    rw [hWf]
    have hq3 : qb + 1 + 1 + 1 < A.heap.size := by
      obtain ⟨S6, hxA, hb1, hAs⟩ := HSA.out
      have := lt_of_block (S6.get 1 rfl)
      omega
    have hD' := hxf.keep HDD.out (by simp; omega)
    refine ⟨by simp, .inl ⟨_, _, rfl, run_takeDeferred hD', ?_⟩⟩
    have hxp := Ext.putObj Wf A.heap.size (.deferred none)
    refine ⟨_, results_ints rfl _ _ (qb + 1 + 1) (qb + 1 + 1 + 1) _ _ rfl rfl (cellOf (hxp.keep k1 (by simp; omega)) 0) (cellOf (hxp.keep k2 (by simp; omega)) 0), rfl, ?_⟩
    have Sa := HS.out.upd 3 (Ob.one (qb + 1 + 1) (.cells #[.int .i64 (R.1 : Nat)] 3 (0, 0))) rfl ((Ext.refl [qb + 1 + 1] W).setCell ⟨qb + 1 + 1, 0, none⟩ (.int .i64 (R.1 : Nat)) (.inl (by simp))) (Fr.refl _ _) (heap_setCell_same (HS.out.get 3 rfl) _)
    have Sb := (Sa.upd 2 (Ob.one (qb + 1 + 1 + 1) (.cells #[.int .i64 (R.2 : Nat)] 3 (0, 0))) rfl ((Ext.refl [qb + 1 + 1 + 1] _).setCell ⟨qb + 1 + 1 + 1, 0, none⟩ (.int .i64 (R.2 : Nat)) (.inl (by simp))) (Fr.refl _ _) (heap_setCell_same (Sa.get 2 rfl) _)).quiet ((Ext.refl _ _).drew)
    rw [hWf] at Sb
    refine Sb.ext.trans' hxp (fun k hk hkF => ?_)
    obtain ⟨S6, hxA, hb1, hAs⟩ := HSA.out
    have := S6.ext.size
    simp at hkF
    omega
  case body =>
    rintro pre x post W hxs ⟨st, hst, hst8, Sp⟩
    obtain ⟨hpre, hlen, hj⟩ := range_pre hxs
    obtain ⟨fr, hfr⟩ : ∃ fr, l.getD (l.length - 1 - x) 0 = fr := ⟨_, rfl⟩
    have hcons : l.reverse.drop x = fr :: l.reverse.drop (x + 1) := by
      rw [List.drop_eq_getElem_cons (by rw [List.length_reverse]; exact hj)]
      congr 1
      rw [List.getElem_reverse, ← hfr, List.getD_eq_getElem?_getD, List.getElem?_eq_getElem (by omega)]
      rfl
    have hfp : fr < p := HL.out.1 fr (by
      rw [← hfr, List.getD_eq_getElem?_getD, List.getElem?_eq_getElem (by omega)]
      exact List.getElem_mem _)
    rw [hlen, hcons, findL] at hst
    rw [hfr]
    have Sp := keep_start Sp 0 rfl
    have hend : ∀ (W' : World) (st' : Nat × Nat), Sep w W' [Ob.keep W [A.heap.size, A.heap.size + 1, b1], Ob.one kb (.cells #[u8v a, u8v b, u8v c] 133 (0, 0)), Ob.one (qb + 1 + 1 + 1) (.cells #[.int .i64 (st'.2 : Nat)] 3 (0, 0)), Ob.one (qb + 1 + 1) (.cells #[.int .i64 (st'.1 : Nat)] 3 (0, 0)), Ob.one (qb + 1) (.cells #[.int .i64 (p : Int)] 3 (0, 0)), Ob.one qb (.cells #[.pointer (some ⟨fb, 0, none⟩)] 98 (0, 0))] → KeepsT [A.heap.size, A.heap.size + 1, b1, g] W W' ∧ Sep w W' [Ob.room [A.heap.size, A.heap.size + 1, b1], Ob.one kb (.cells #[u8v a, u8v b, u8v c] 133 (0, 0)), Ob.one (qb + 1 + 1 + 1) (.cells #[.int .i64 (st'.2 : Nat)] 3 (0, 0)), Ob.one (qb + 1 + 1) (.cells #[.int .i64 (st'.1 : Nat)] 3 (0, 0)), Ob.one (qb + 1) (.cells #[.int .i64 (p : Int)] 3 (0, 0)), Ob.one qb (.cells #[.pointer (some ⟨fb, 0, none⟩)] 98 (0, 0))] := fun W' st' S => by
      have HE := keep_end S 0 rfl
      refine ⟨⟨HE.1.size, fun k hk => ?_⟩, HE.2⟩
      by_cases hkg : k = g
      · subst hkg
        exact (S.ext.block k hg1 (by simp)).trans (Sp.ext.block k hg1 (by simp)).symm
      · exact HE.1.same k (by simp at hk ⊢; omega)
    have q0 : W.cell? ⟨qb, 0, none⟩ = some (.pointer (some ⟨fb, 0, none⟩)) := cellOf (Sp.get 5 rfl) 0
    have q1 : W.cell? ⟨qb + 1, 0, none⟩ = some (.int .i64 (p : Int)) := cellOf (Sp.get 4 rfl) 0
    have c1 : W.cell? ⟨qb + 1 + 1, 0, none⟩ = some (.int .i64 (st.1 : Nat)) := cellOf (Sp.get 3 rfl) 0
    have HEND := Lib.hid hend
    have HS := Lib.hid Sp
    have HSA2 := HSA
    clear hend Sp hcons hxs hpre hbA hgA hltA hgw hq1 hq2 hq3 hg1 hfr
    by_cases hbr : 32768 < p - fr ∨ st.1 = 258
    · rw [if_pos hbr] at hst
      obtain rfl : R = st := hst.symm
      by_cases hb2 : 32768 < p - fr
      · have d1 : decide ((32768 : Int) < (p : Int) - (fr : Int)) = true := decide_eq_true (by omega)
        gi_wp2_with fail
        exact ⟨⟨(HEND.out _ _ HS.out).1.size, fun k hk => (HEND.out _ _ HS.out).1.same k (by simp at hk ⊢; omega)⟩, rfl, (HEND.out _ _ HS.out).2⟩
      · have d1 : decide ((32768 : Int) < (p : Int) - (fr : Int)) = false := decide_eq_false (by omega)
        have d2 : (((R.1 : Nat) : Int) == 258) = true := by rw [beq_iff_eq]; omega
        gi_wp2_with fail
        exact ⟨⟨(HEND.out _ _ HS.out).1.size, fun k hk => (HEND.out _ _ HS.out).1.same k (by simp at hk ⊢; omega)⟩, rfl, (HEND.out _ _ HS.out).2⟩
    · rw [if_neg hbr] at hst
      have d1 : decide ((32768 : Int) < (p : Int) - (fr : Int)) = false := decide_eq_false (by omega)
      have d2 : (((st.1 : Nat) : Int) == 258) = false := beq_eq_false_iff_ne.2 (by omega)
      have hf := HS.out.ext.keep HP.out.1 (by simp)
      have hlw := long_walk fb mb fr p p s W hf hs (by omega) hfp
      have hl8 := longN_le s fr p
      obtain ⟨m, hm⟩ : ∃ m, longN s fr p = m := ⟨_, rfl⟩
      rw [hm] at hlw hst hl8
      have HLW := Lib.hid hlw
      have HST := Lib.hid hst
      clear hlw hst hm hf
      gi_wp2_with (refine wpListIn_hid (fun ⟨_, _, h⟩ => h) rfl ?_)
      refine Lib.hid ?_
      go_wp2_with fail
      gi_wp2_with (refine wpListIn_hid (fun ⟨_, _, h⟩ => h) rfl ?_)
      refine Lib.hid ?_
      go_wp2_with fail
      refine HLW.out.mono ?_
      rintro e w8 ⟨rfl, hx8⟩
      have Sp := HS.out.quiet hx8
      have hx9 : Ext [] W w8 := hx8
      have q1 : w8.cell? ⟨qb + 1, 0, none⟩ = some (.int .i64 (p : Int)) := cellOf (Sp.get 4 rfl) 0
      have c1 : w8.cell? ⟨qb + 1 + 1, 0, none⟩ = some (.int .i64 (st.1 : Nat)) := cellOf (Sp.get 3 rfl) 0
      have c2 : w8.cell? ⟨qb + 1 + 1 + 1, 0, none⟩ = some (.int .i64 (st.2 : Nat)) := cellOf (Sp.get 2 rfl) 0
      have f1 : w8.frozen? ⟨qb + 1 + 1, 0, none⟩ = false := freeOf (Sp.get 3 rfl) 0
      have f2 : w8.frozen? ⟨qb + 1 + 1 + 1, 0, none⟩ = false := freeOf (Sp.get 2 rfl) 0
      have HS8 := Lib.hid Sp
      clear Sp hx8 hx9 q0
      by_cases hm : st.1 < m
      · have d3 : decide (st.1 < m) = true := decide_eq_true hm
        obtain ⟨dd, hdd⟩ : ∃ dd, p - fr = dd := ⟨_, rfl⟩
        have hdi : (p : Int) - (fr : Int) = (dd : Int) := by omega
        have h := HST.out
        rw [if_pos hm, hdd] at h
        have HST := Lib.hid h
        clear h hdd d1
        go_wp2_with fail
        gi_wp2_with fail
        have Sp := HS8.out.quiet ((Ext.refl _ w8).drew)
        have hq : w8.drew.heap[qb + 1]? = some (.cells #[.int .i64 (p : Int)] 3 (0, 0)) := Sp.get 4 rfl
        have Sa := Sp.upd 3 (Ob.one (qb + 1 + 1) (.cells #[.int .i64 (m : Nat)] 3 (0, 0))) rfl ((Ext.refl [qb + 1 + 1] w8.drew).setCell ⟨qb + 1 + 1, 0, none⟩ (.int .i64 (m : Nat)) (.inl (by simp))) (Fr.refl _ _) (heap_setCell_same (Sp.get 3 rfl) _)
        have hq' : (w8.drew.setCell ⟨qb + 1 + 1, 0, none⟩ (.int .i64 (m : Nat))).heap[qb + 1]? = some (.cells #[.int .i64 (p : Int)] 3 (0, 0)) := Sa.get 4 rfl
        have Sb := Sa.upd 2 (Ob.one (qb + 1 + 1 + 1) (.cells #[.int .i64 (dd : Nat)] 3 (0, 0))) rfl ((Ext.refl [qb + 1 + 1 + 1] _).setCell ⟨qb + 1 + 1 + 1, 0, none⟩ (.int .i64 (dd : Nat)) (.inl (by simp))) (Fr.refl _ _) (heap_setCell_same (Sa.get 2 rfl) _)
        have HSB := Lib.hid Sb
        clear Sp Sa Sb q1
        refine rnd_perm (C := fun w' => ∃ x : TwoW (qb + 1) (.cells #[.int .i64 (p : Int)] 3 (0, 0)) (qb + 1) (.cells #[.int .i64 (p : Int)] 3 (0, 0)), w' = x.w) [0, 1, 2, 3] 5 (by kernel_rfl) (by kernel_rfl) (by kernel_rfl) (fun ⟨_, _, h⟩ => h) ⟨TwoW.mk w8.drew hq hq, rfl⟩ ?_
        haveI : Nonempty (TwoW (qb + 1) (.cells #[.int .i64 (p : Int)] 3 (0, 0)) (qb + 1) (.cells #[.int .i64 (p : Int)] 3 (0, 0))) := ⟨TwoW.mk w8.drew hq hq⟩
        have e0 : ∀ x : TwoW (qb + 1) (.cells #[.int .i64 (p : Int)] 3 (0, 0)) (qb + 1) (.cells #[.int .i64 (p : Int)] 3 (0, 0)), x.w.cell? ⟨qb + 1, 0, none⟩ = some (.int .i64 (p : Int)) := fun x => cellOf x.h1 0
        simp only [pick, List.getElem?_toArray, List.getElem?_cons_zero, List.getElem?_cons_succ, List.drop_succ_cons, List.drop_zero]
        repeat (go_big_quiet_step (fail))
        refine wpQuiet_nil ?_
        clear e0
        refine anyC_one (f := 0) (i := 4) (by kernel_rfl) (by decide) rfl rfl (fun K hK => ?_)
        go_wp2_with fail
        refine hK _ (w8.drew.setCell ⟨qb + 1 + 1, 0, none⟩ (.int .i64 (m : Nat))) ⟨TwoW.mk _ hq' hq', rfl⟩ ?_
        clear hK K
        refine anyC_end (by kernel_rfl) ?_
        go_wp2_with fail
        refine NoPanic.normal ?_
        gi_wp2_with fail
        have HE := HEND.out _ (m, dd) HSB.out
        exact ⟨HE.1, (m, dd), by rw [List.length_append, hlen]; exact HST.out, hl8, HE.2⟩
      · have d3 : decide (st.1 < m) = false := decide_eq_false hm
        go_wp2_with fail
        gi_wp2_with fail
        have HE := HEND.out _ st HS8.out
        have h := HST.out
        rw [if_neg hm] at h
        exact ⟨HE.1, st, by rw [List.length_append, hlen]; exact h, hst8, HE.2⟩
  case done =>
    rintro W ⟨st, hst, hst8, Sp⟩ hD
    obtain rfl : R = st := by
      rw [List.length_range, List.drop_of_length_le (by rw [List.length_reverse]; exact Nat.le_refl _)] at hst
      exact hst.symm
    clear hst hst8
    have r1 := Sp.get 3 rfl
    have r2 := Sp.get 2 rfl
    have c1 : W.cell? ⟨qb + 1 + 1, 0, none⟩ = some (.int .i64 (R.1 : Nat)) := cellOf r1 0
    have c2 : W.cell? ⟨qb + 1 + 1 + 1, 0, none⟩ = some (.int .i64 (R.2 : Nat)) := cellOf r2 0
    have f1 : W.frozen? ⟨qb + 1 + 1, 0, none⟩ = false := freeOf r1 0
    have f2 : W.frozen? ⟨qb + 1 + 1 + 1, 0, none⟩ = false := freeOf r2 0
    have HS := Lib.hid Sp
    have HDD := Lib.hid hD
    clear Sp hD r1 r2 hbA hgA hltA hgw hq1 hq2 hq3 hg1
    go_wp2_with fail
    go_region
    go_wp2_with fail
    obtain ⟨Wf, hWf⟩ : ∃ Wf, ((W.setCell ⟨qb + 1 + 1, 0, none⟩ (.int .i64 (R.1 : Nat))).setCell ⟨qb + 1 + 1 + 1, 0, none⟩ (.int .i64 (R.2 : Nat))).drew = Wf := ⟨_, rfl⟩
    have hxf : Ext [qb + 1 + 1, qb + 1 + 1 + 1] W Wf := by rw [← hWf]; exact (((Ext.refl _ W).setCell _ _ (.inl (by simp))).setCell _ _ (.inl (by simp))).drew
    have k1 : Wf.heap[qb + 1 + 1]? = some (.cells #[.int .i64 (R.1 : Nat)] 3 (0, 0)) := by rw [← hWf]; exact (heap_setCell_ne _ (by simp)).trans (heap_setCell_same (HS.out.get 3 rfl) _)
    have k2 : Wf.heap[qb + 1 + 1 + 1]? = some (.cells #[.int .i64 (R.2 : Nat)] 3 (0, 0)) := by rw [← hWf]; exact heap_setCell_same ((heap_setCell_ne _ (by simp)).trans (HS.out.get 2 rfl)) _
    rw [hWf]
    have hq3 : qb + 1 + 1 + 1 < A.heap.size := by
      obtain ⟨S6, hxA, hb1, hAs⟩ := HSA.out
      have := lt_of_block (S6.get 1 rfl)
      omega
    have hD' := hxf.keep HDD.out (by simp; omega)
    refine ⟨by simp, .inl ⟨_, _, rfl, run_takeDeferred hD', ?_⟩⟩
    have hxp := Ext.putObj Wf A.heap.size (.deferred none)
    refine ⟨_, results_ints rfl _ _ (qb + 1 + 1) (qb + 1 + 1 + 1) _ _ rfl rfl (cellOf (hxp.keep k1 (by simp; omega)) 0) (cellOf (hxp.keep k2 (by simp; omega)) 0), rfl, ?_⟩
    have Sa := HS.out.upd 3 (Ob.one (qb + 1 + 1) (.cells #[.int .i64 (R.1 : Nat)] 3 (0, 0))) rfl ((Ext.refl [qb + 1 + 1] W).setCell ⟨qb + 1 + 1, 0, none⟩ (.int .i64 (R.1 : Nat)) (.inl (by simp))) (Fr.refl _ _) (heap_setCell_same (HS.out.get 3 rfl) _)
    have Sb := (Sa.upd 2 (Ob.one (qb + 1 + 1 + 1) (.cells #[.int .i64 (R.2 : Nat)] 3 (0, 0))) rfl ((Ext.refl [qb + 1 + 1 + 1] _).setCell ⟨qb + 1 + 1 + 1, 0, none⟩ (.int .i64 (R.2 : Nat)) (.inl (by simp))) (Fr.refl _ _) (heap_setCell_same (Sa.get 2 rfl) _)).quiet ((Ext.refl _ _).drew)
    rw [hWf] at Sb
    refine Sb.ext.trans' hxp (fun k hk hkF => ?_)
    obtain ⟨S6, hxA, hb1, hAs⟩ := HSA.out
    have := S6.ext.size
    simp at hkF
    omega
end Go.Proofs.YtnapnaaejignaaaGreat.Mt

/-! MtG: match.Find walked. -/
namespace Go.Proofs.YtnapnaaejignaaaGreat.Mt
open Go.RowKit Go.Maps

/-- find, of whatever place -/
theorem find_walk (fb mb p : Nat) (F : List Nat) (s : ByteArray) (w : World) (hP : (oFi fb mb F s p).P w) (hs : s.size ≤ 1048576) (hp : p ≤ s.size) :
    Calls Tryz.prog 54 #[.pointer (some ⟨fb, 0, none⟩), .int .i64 p] w fun e w' => e = .returned (.tuple #[.int .i64 ((findN s p).1 : Nat), .int .i64 ((findN s p).2 : Nat)]) ∧ Ext [] w w' := by
  by_cases h3 : p + 3 ≤ s.size
  · exact find_yes fb mb p F s w hP hs h3
  · have h := find_no fb mb p F s w hP hs hp (by omega)
    have e : findN s p = (0, 0) := by unfold findN; rw [if_neg h3]
    rw [e]
    exact h
/-- what Find tells -/
def findI (s : ByteArray) (i : Int) : Nat × Nat := if 0 ≤ i ∧ i < s.size then findN s i.toNat else (0, 0)
end Go.Proofs.YtnapnaaejignaaaGreat.Mt

/-! MtI: match.may walked. -/
namespace Go.Proofs.YtnapnaaejignaaaGreat.Mt
open Go.RowKit

def pcV (x : UInt8) (l b : Int) : Value := .agg #[u8v x, .int .i64 l, .int .i64 b]
def mayB (x : UInt8) (l b : Int) : Bool := if l = 0 then decide (b = 0) else decide (x = 0 ∧ 3 ≤ l ∧ l ≤ 258 ∧ 1 ≤ b ∧ b ≤ 32768)
set_option maxRecDepth 100000 in
set_option maxHeartbeats 8000000 in
theorem may_walk (x : UInt8) (l b : Int) (w : World) : Calls Tryz.prog 81 #[pcV x l b] w fun e w' => e = .returned (.bool (mayB x l b)) ∧ Ext [] w w' := by
  unfold pcV
  by_cases h0 : l = 0
  · subst h0
    have e : mayB x 0 b = (b == 0) := by unfold mayB; rw [if_pos rfl]; rfl
    rw [e]
    clear e
    go_enter Tryz.func81, Tryz.ntmps81
    go_wp2_with fail
    go_ret
    exact ⟨rfl, (Ext.refl _ _).alloc _⟩
  · have d0 : (l == 0) = false := beq_eq_false_iff_ne.2 h0
    have e : mayB x l b = ((((((x.toNat : Nat) : Int) == 0) && decide (3 ≤ l)) && decide (l ≤ 258) && decide (1 ≤ b)) && decide (b ≤ 32768)) := by
      unfold mayB
      rw [if_neg h0]
      have : ((((x.toNat : Nat) : Int) == 0) : Bool) = decide (x = 0) := by
        rw [show (((x.toNat : Nat) : Int) == 0) = decide (((x.toNat : Nat) : Int) = 0) from rfl]
        exact decide_eq_decide.2 ⟨fun h => UInt8.toNat_inj.1 (by simpa using h), fun h => by rw [h]; rfl⟩
      rw [this]
      simp [Bool.and_assoc]
    rw [e]
    clear e
    by_cases h1 : x = 0
    · subst h1
      by_cases h2 : 3 ≤ l
      · by_cases h3 : l ≤ 258
        · by_cases h4 : 1 ≤ b
          · go_enter Tryz.func81, Tryz.ntmps81
            go_wp2_with fail
            go_ret
            exact ⟨by simp [h2, h3, h4], (Ext.refl _ _).alloc _⟩
          · go_enter Tryz.func81, Tryz.ntmps81
            go_wp2_with fail
            go_ret
            exact ⟨by simp; omega, (Ext.refl _ _).alloc _⟩
        · go_enter Tryz.func81, Tryz.ntmps81
          go_wp2_with fail
          go_ret
          exact ⟨by simp; omega, (Ext.refl _ _).alloc _⟩
      · go_enter Tryz.func81, Tryz.ntmps81
        go_wp2_with fail
        go_ret
        exact ⟨by simp; omega, (Ext.refl _ _).alloc _⟩
    · have d1 : (((x.toNat : Nat) : Int) == 0) = false := beq_eq_false_iff_ne.2 (fun h => h1 (UInt8.toNat_inj.1 (by simpa using h)))
      go_enter Tryz.func81, Tryz.ntmps81
      go_wp2_with fail
      go_ret
      exact ⟨by simp [d1], (Ext.refl _ _).alloc _⟩
set_option maxHeartbeats 4000000 in
theorem not_may (x : UInt8) (l b : Int) (w : World) : Calls Tryz.prog 80 #[pcV x l b] w fun e w' => e = .returned (.bool (!mayB x l b)) ∧ Ext [] w w' := by
  have HM := Lib.hid (fun w => may_walk x l b w)
  unfold pcV at *
  go_enter Tryz.func80, Tryz.ntmps80
  go_wp2_with fail
  refine (HM.out _).mono ?_
  rintro e w1 ⟨rfl, hx1⟩
  have hx := ((Ext.refl [] w).alloc (.cells #[u8v x, .int .i64 l, .int .i64 b] 94)).trans hx1
  go_wp2_with fail
  go_ret
  exact ⟨rfl, hx⟩
end Go.Proofs.YtnapnaaejignaaaGreat.Mt

/-! MtH: match.All walked. -/
namespace Go.Proofs.YtnapnaaejignaaaGreat.Mt
open Go.RowKit Go.Maps

abbrev Pc := UInt8 × Int × Int
def pcC (l : List Pc) : List Value := l.flatMap fun p => [u8v p.1, .int .i64 p.2.1, .int .i64 p.2.2]
theorem pcC_len (l : List Pc) : (pcC l).length = l.length * 3 := by
  induction l with
  | nil => rfl
  | cons a l ih => rw [pcC, List.flatMap_cons, List.length_append, ← pcC, ih]; simp; omega
theorem pcC_append (l m : List Pc) : pcC (l ++ m) = pcC l ++ pcC m := by unfold pcC; rw [List.flatMap_append]
theorem pcC_one (p : Pc) : pcC [p] = [u8v p.1, .int .i64 p.2.1, .int .i64 p.2.2] := by simp [pcC]
/-- the pieces of a text from a place on (k: rounds at most) -/
def allF (s : ByteArray) : Nat → Nat → List Pc
  | 0, _ => []
  | k + 1, p => if p < s.size then
      if 0 < (findN s p).1 then (0, ((findN s p).1 : Nat), ((findN s p).2 : Nat)) :: allF s k (p + (findN s p).1) else (byteF s p, 0, 0) :: allF s k (p + 1)
    else []
def allN (s : ByteArray) : List Pc := allF s (s.size + 1) 0
theorem longF_fit (s : ByteArray) (a b : Nat) : ∀ k n, b + n ≤ s.size → b + longF s a b k n ≤ s.size
  | 0, n, h => h
  | k + 1, n, h => by
    rw [longF]
    split
    · rename_i h1
      exact longF_fit s a b k (n + 1) (by omega)
    · exact h
theorem findL_fit (s : ByteArray) (p : Nat) (hp : p ≤ s.size) : ∀ (l : List Nat) (st : Nat × Nat), p + st.1 ≤ s.size → p + (findL s p l st).1 ≤ s.size
  | [], st, h => h
  | f :: r, st, h => by
    rw [findL]
    split
    · exact h
    · refine findL_fit s p hp r _ ?_
      split
      · exact longF_fit s f p 259 0 (by omega)
      · exact h
theorem findN_fit (s : ByteArray) (p : Nat) (hp : p ≤ s.size) : p + (findN s p).1 ≤ s.size := by
  unfold findN
  split
  · exact findL_fit s p hp _ _ (by simpa using hp)
  · simpa using hp
theorem infoPiece : (Tryz.prog.info? 94).map (fun i => (i.zero, i.size, i.bytes)) = some (some (.agg #[.int .u8 0, .int .i64 0, .int .i64 0]), 3, 24) := by kernel_rfl
theorem cells_pc (w : World) (x : UInt8) (l b : Int) (t : TypeId) (f : Nat × Nat := (0, 0)) : ∀ j u, (pcC [(x, l, b)])[j]? = some u → (w.alloc (.cells #[u8v x, .int .i64 l, .int .i64 b] t f)).cell? ((⟨w.heap.size, 0, none⟩ : Addr).add j) = some u := by
  intro j u h
  have e : (⟨w.heap.size, 0, none⟩ : Addr).add j = ⟨w.heap.size, j, none⟩ := by unfold Addr.add; split <;> simp_all
  rw [e, cellOf (heap_alloc_at _)]
  rw [pcC_one] at h
  rw [← h]
  simp
set_option maxRecDepth 100000 in
set_option maxHeartbeats 8000000 in
theorem All_walk (s : ByteArray) (w : World) (hs : s.size ≤ 1048576) :
    Calls Tryz.prog 32 #[.string s] w fun e w' => ∃ v, e = .returned v ∧ Ext [] w w' ∧ (oSl 94 3 v (allN s).length (pcC (allN s))).P w' ∧ ∀ k ∈ v.ownBlock.toList, w.heap.size ≤ k := by
  obtain ⟨i0, hif, hz0, hz1, hz2⟩ := info_parts infoPiece
  have hmm := @run_makeMap Tryz.prog
  obtain ⟨R, hR⟩ : ∃ R, allN s = R := ⟨_, rfl⟩
  rw [hR]
  unfold allN at hR
  have HR := Lib.hid hR
  clear hR
  go_enter Tryz.func32, Tryz.ntmps32
  go_wp2_with fail
  have hx2 : Ext [] w ((w.alloc (.map #[] 0)).alloc (finder s w.heap.size 0)) := ((Ext.refl _ w).alloc _).alloc _
  have hfb := heap_alloc_at (w := w.alloc (.map #[] 0)) (finder s w.heap.size 0)
  rw [show (w.alloc (.map #[] 0)).heap.size = w.heap.size + 1 from by simp] at hfb
  have hP0 : (oFi (w.heap.size + 1) w.heap.size [] s 0).P ((w.alloc (.map #[] 0)).alloc (finder s w.heap.size 0)) := ⟨hfb, (oPl w.heap.size [] s 0).ok (oPl_new w s) ((Ext.refl [] _).alloc _) (by simp), by omega, by simp⟩
  have S := (Sep.start w).new hx2 (oFi (w.heap.size + 1) w.heap.size [] s 0) hP0 (fun k hk => by simp [oFi] at hk; omega)
  have S := S.new (Ext.refl _ _) (oSl 94 3 (.slice none 0 0) 0 (pcC [])) (World.ownsRow_nil _ _ _ _) (fun q hq => by simp [oSl, Value.ownBlock] at hq)
  obtain ⟨fb, hfbe⟩ : ∃ fb, w.heap.size + 1 = fb := ⟨_, rfl⟩
  obtain ⟨mb, hmbe⟩ : ∃ mb, w.heap.size = mb := ⟨_, rfl⟩
  have HS := Lib.hid S
  clear hx2 hfb hP0 S hmm
  rw [hfbe, hmbe] at HS
  rw [hfbe, hmbe]
  clear hfbe hmbe
  go_loopg [4, 5] (s.size + 1) (fun g ov iv wr => ∃ (p nx : Nat) (F : List Nat) (L : List Pc), iv = .int .i64 p ∧ p ≤ s.size ∧ s.size < p + g ∧ nx ≤ p ∧ L.length ≤ p ∧ L ++ allF s g p = R ∧ Sep w wr [oSl 94 3 ov L.length (pcC L), oFi fb mb F s nx])
  case atStart => exact ⟨0, 0, [], [], rfl, by omega, by omega, by omega, by simp, HR.out, HS.out⟩
  case round =>
    clear HS HR
    obtain ⟨p, nx, F, L, rfl, hp, hg, hnx, hLp, hR, S⟩ := hrel
    have HR := Lib.hid hR
    clear hR
    by_cases hlt : p < s.size
    · obtain ⟨g', rfl⟩ : ∃ g', gk = g' + 1 := ⟨gk - 1, by omega⟩
      have hfit := findN_fit s p hp
      have hR := HR.out
      rw [allF, if_pos hlt] at hR
      have HR := Lib.hid hR
      clear hR
      have HS := Lib.hid S
      clear S
      go_wp2_with fail
      refine (know_walk fb mb nx p F s wr (HS.out.get 1 rfl) hs hnx hp).mono ?_
      rintro e w1 ⟨rfl, F1, hx1, hfr1, hP1⟩
      have HS := Lib.hid (HS.out.upd 1 (oFi fb mb F1 s p) rfl hx1 hfr1 hP1)
      clear hx1 hfr1 hP1
      go_wp2_with fail
      refine (find_walk fb mb p F1 s w1 (HS.out.get 1 rfl) hs hp).mono ?_
      rintro e w2 ⟨rfl, hx2⟩
      have HS := Lib.hid (HS.out.quiet hx2)
      clear hx2
      obtain ⟨n, hn⟩ : ∃ n, (findN s p).1 = n := ⟨_, rfl⟩
      obtain ⟨d, hd⟩ : ∃ d, (findN s p).2 = d := ⟨_, rfl⟩
      rw [hn] at hfit
      rw [hn, hd] at HR
      rw [hn, hd]
      clear hn hd
      have hown : w2.ownsRow 0 94 3 u4 L.length (pcC L) := HS.out.get 0 rfl
      by_cases h0 : 0 < n
      · have q0 : (0 : Int) < (n : Int) := by omega
        have hR := HR.out
        rw [if_pos h0] at hR
        have HR := Lib.hid hR
        clear hR
        go_wp2_with (first | (at_builtin; refine wpList_append_lies _ rfl _ _ 62 rfl 0 94 i0 _ 3 24 Tryz.underlying62 hif hz0 hz1 hz2 rfl (by decide) u4 L.length _ rfl (World.ownsRow.alloc hown _) ⟨w2.heap.size, 0, none⟩ 1 1 (pcC [(0, (n : Int), (d : Int))]) rfl rfl (cells_pc w2 0 n d _) (by simp [pcC, Value.oneCell']) (by decide) (by unfold maxLen; omega) (by omega) (by omega) (w2.heap.size + 1) (by simp) ?_; intro g cap2 w6 hown1 hgrow hat hlt6))
        go_roundg g'
        case measure => omega
        case rel =>
          have P := push_local (cap := cap2) (n := L.length + 1) hgrow hat
          have Q := HS.out.upd 0 (oSl 94 3 (.slice (some ⟨g, 0, none⟩) (L.length + 1) cap2) (L.length + 1) (pcC (L ++ [((0 : UInt8), (n : Int), (d : Int))]))) rfl P.1 P.2 (by rw [pcC_append]; have hown2 := hown1; simpa [oSl] using hown2)
          refine ⟨p + n, p, F1, L ++ [((0 : UInt8), (n : Int), (d : Int))], by go_num, by omega, by omega, by omega, by simp; omega, ?_, by simpa using Q⟩
          rw [List.append_assoc]
          exact HR.out
      · obtain rfl : n = 0 := by omega
        have hR := HR.out
        rw [if_neg h0, ← bget s p hlt] at hR
        have hlt2 : (p : Int) < (s.size : Int) := by omega
        obtain ⟨x, hx⟩ : ∃ x, s[p]'hlt = x := ⟨_, rfl⟩
        rw [hx] at hR
        have HR := Lib.hid hR
        clear hR hfit
        go_wp2_with (first | (at_builtin; refine wpList_append_lies _ rfl _ _ 62 rfl 0 94 i0 _ 3 24 Tryz.underlying62 hif hz0 hz1 hz2 rfl (by decide) u4 L.length _ rfl (World.ownsRow.alloc hown _) ⟨w2.heap.size, 0, none⟩ 1 1 (pcC [(x, 0, 0)]) rfl rfl (cells_pc w2 x 0 0 _) (by simp [pcC, Value.oneCell']) (by decide) (by unfold maxLen; omega) (by omega) (by omega) (w2.heap.size + 1) (by simp) ?_; intro g cap2 w6 hown1 hgrow hat hlt6))
        go_roundg g'
        case measure => omega
        case rel =>
          have P := push_local (cap := cap2) (n := L.length + 1) hgrow hat
          have Q := HS.out.upd 0 (oSl 94 3 (.slice (some ⟨g, 0, none⟩) (L.length + 1) cap2) (L.length + 1) (pcC (L ++ [(x, (0 : Int), (0 : Int))]))) rfl P.1 P.2 (by rw [pcC_append]; have hown2 := hown1; simpa [oSl] using hown2)
          refine ⟨p + 1, p, F1, L ++ [(x, (0 : Int), (0 : Int))], by go_num, by omega, by omega, by omega, by simp; omega, ?_, by simpa using Q⟩
          rw [List.append_assoc]
          exact HR.out
    · obtain rfl : p = s.size := by omega
      have hR := HR.out
      have e : allF s gk s.size = [] := by cases gk <;> simp [allF]
      rw [e, List.append_nil] at hR
      subst hR
      have HS := Lib.hid S
      clear S HR e
      go_wp2_with fail
      go_ret
      exact ⟨_, rfl, HS.out.ext, HS.out.get 0 rfl, HS.out.base _ (List.mem_cons_self ..)⟩
end Go.Proofs.YtnapnaaejignaaaGreat.Mt

/-! MtJ: match.Check, match.Size walked, over pieces that lie in memory. -/
namespace Go.Proofs.YtnapnaaejignaaaGreat.Mt
open Go.RowKit

/-- the value v is a slice of the pieces l in the world w -/
def PcAt (w : World) (v : Value) (l : List Pc) : Prop :=
  ∃ ao cap, v = .slice ao l.length cap ∧ (0 < l.length → ∃ b off, ao = some ⟨b, off, none⟩ ∧ ∀ i x, l[i]? = some x → w.cell? ⟨b, off + i * 3, none⟩ = some (u8v x.1) ∧ w.cell? ⟨b, off + i * 3 + 1, none⟩ = some (.int .i64 x.2.1) ∧ w.cell? ⟨b, off + i * 3 + 2, none⟩ = some (.int .i64 x.2.2))
theorem PcAt.ext {w w' : World} {v : Value} {l : List Pc} (h : PcAt w v l) (hx : Ext [] w w') : PcAt w' v l := by
  obtain ⟨ao, cap, rfl, hc⟩ := h
  refine ⟨ao, cap, rfl, fun hn => ?_⟩
  obtain ⟨b, off, rfl, h⟩ := hc hn
  exact ⟨b, off, rfl, fun i x hi => ⟨Ext.cell hx (h i x hi).1, Ext.cell hx (h i x hi).2.1, Ext.cell hx (h i x hi).2.2⟩⟩
theorem pcC_at (l : List Pc) : ∀ (i : Nat) (x : Pc), l[i]? = some x → (pcC l)[i * 3]? = some (u8v x.1) ∧ (pcC l)[i * 3 + 1]? = some (.int .i64 x.2.1) ∧ (pcC l)[i * 3 + 2]? = some (.int .i64 x.2.2) := by
  induction l with
  | nil => intro i x h; simp at h
  | cons a l ih =>
    intro i x h
    have e : pcC (a :: l) = u8v a.1 :: .int .i64 a.2.1 :: .int .i64 a.2.2 :: pcC l := by simp [pcC]
    rw [e]
    cases i with
    | zero => simp at h; subst h; simp
    | succ i =>
      have := ih i x (by simpa using h)
      rw [show (i + 1) * 3 = i * 3 + 3 by omega]
      exact this
theorem PcAt.of_own {w : World} {v : Value} {l : List Pc} (h : w.ownsRow 0 94 3 v l.length (pcC l)) : PcAt w v l := by
  rcases h.2 with ⟨rfl, hn⟩ | ⟨g, cap, cs, rfl, _, hg, hnc, hcap, hsz, ht⟩
  · refine ⟨none, 0, by rw [hn], fun h => by omega⟩
  · refine ⟨_, cap, rfl, fun _ => ⟨g, 0, rfl, fun i x hi => ?_⟩⟩
    have hl : i < l.length := (List.getElem?_eq_some_iff.1 hi).1
    obtain ⟨h0, h1, h2⟩ := pcC_at l i x hi
    have at_ : ∀ j, j < l.length * 3 → cs[j]? = (pcC l)[j]? := fun j hj => by
      rw [← ht, List.getElem?_take, if_pos hj, Array.getElem?_toList]
    refine ⟨?_, ?_, ?_⟩
    · rw [cellOf hg, Nat.zero_add, at_ _ (by omega), h0]
    · rw [cellOf hg, Nat.zero_add, at_ _ (by omega), h1]
    · rw [cellOf hg, Nat.zero_add, at_ _ (by omega), h2]
/-! ### plain -/
def mayP (p : Pc) : Bool := mayB p.1 p.2.1 p.2.2
theorem mayP_iff (p : Pc) (h : mayP p = true) : (p.2.1 = 0 ∧ p.2.2 = 0) ∨ (p.1 = 0 ∧ 3 ≤ p.2.1 ∧ p.2.1 ≤ 258 ∧ 1 ≤ p.2.2 ∧ p.2.2 ≤ 32768) := by
  unfold mayP mayB at h
  split at h
  · exact .inl ⟨by assumption, by simpa using h⟩
  · exact .inr (by simpa using h)
/-- where the first piece stands that may not be, or -1 -/
def idxF : List Pc → Nat → Int
  | [], _ => -1
  | p :: l, k => if mayP p then idxF l (k + 1) else k
theorem idxF_any (l : List Pc) : ∀ k, decide (0 ≤ idxF l k) = l.any (fun p => !mayP p) := by
  induction l with
  | nil => intro k; rfl
  | cons p l ih =>
    intro k
    rw [idxF, List.any_cons]
    cases h : mayP p
    · simp
    · rw [if_pos rfl, ih]; simp
def chkL : List Pc → Int → Int
  | [], _ => 0
  | p :: l, n => if n < p.2.2 then 4 else chkL l (n + max 1 p.2.1)
def badN (l : List Pc) : Bool := l.any fun p => !mayP p
def chkN (l : List Pc) : Int := if badN l then 2 else chkL l 0
def sumL : List Pc → Int → Int
  | [], n => n
  | p :: l, n => sumL l (n + max 1 p.2.1)
def sizN (l : List Pc) : Int := if chkN l = 0 then sumL l 0 else 0
theorem drop_at {α : Type} {l : List α} {k : Nat} {x : α} (h : l[k]? = some x) : l.drop k = x :: l.drop (k + 1) := by
  obtain ⟨h1, h2⟩ := List.getElem?_eq_some_iff.1 h
  rw [List.drop_eq_getElem_cons h1, h2]
/-! ### the walks -/
set_option maxRecDepth 100000 in
set_option maxHeartbeats 8000000 in
theorem IndexFunc_walk (v : Value) (l : List Pc) (w : World) (hv : PcAt w v l) (hl : l.length ≤ 1048576) :
    Calls Tryz.prog 101 #[v, .func (.func 80) #[] #[]] w fun e w' => e = .returned (.int .i64 (idxF l 0)) ∧ Ext [] w w' := by
  obtain ⟨ao, cap, rfl, hc⟩ := hv
  obtain ⟨R, hR⟩ : ∃ R, idxF l 0 = R := ⟨_, rfl⟩
  rw [hR]
  have HC := Lib.hid hc
  have HR := Lib.hid hR
  clear hc hR
  go_enter Tryz.func101, Tryz.ntmps101
  go_wp2_with fail
  go_loopg [5, 8] l.length (fun g _ iv wr => ∃ k : Nat, g + k = l.length ∧ iv = .int .i64 k ∧ idxF (l.drop k) k = R ∧ Ext [] w wr)
  case atStart => exact ⟨0, by omega, rfl, HR.out, Ext.refl _ _⟩
  case round =>
    clear HR
    obtain ⟨k, hk, rfl, hR, hx⟩ := hrel
    have HX := Lib.hid hx
    clear hx
    by_cases hlt : k < l.length
    · obtain ⟨b, off, rfl, hcell⟩ := HC.out (by omega)
      obtain ⟨x, hxk⟩ : ∃ x, l[k]? = some x := ⟨_, List.getElem?_eq_getElem hlt⟩
      obtain ⟨c0, c1, c2⟩ := hcell k x hxk
      have d0 := Ext.cell HX.out c0
      have d1 := Ext.cell HX.out c1
      have d2 := Ext.cell HX.out c2
      rw [drop_at hxk, idxF] at hR
      have HR := Lib.hid hR
      clear hcell c0 c1 c2 hR hxk
      have HN := Lib.hid (not_may x.1 x.2.1 x.2.2 wr)
      change Hid (Calls Tryz.prog 80 #[pcV x.1 x.2.1 x.2.2] wr fun e w' => e = .returned (.bool (!mayP x)) ∧ Ext [] wr w') at HN
      unfold pcV at HN
      go_wp2_with fail
      refine HN.out.mono ?_
      clear HN d0 d1 d2
      rintro e w1 ⟨rfl, hx1⟩
      have HX1 := Lib.hid (HX.out.trans hx1)
      clear hx1
      cases hm : mayP x
      · have hR := HR.out
        rw [hm] at hR
        have HR := Lib.hid hR
        clear hm hR
        go_wp2_with fail
        go_ret
        exact ⟨by rw [← HR.out]; rfl, HX1.out⟩
      · have hR := HR.out
        rw [hm, if_pos rfl] at hR
        have HR := Lib.hid hR
        clear hm hR
        go_wp2_with fail
        go_roundg (l.length - (k + 1))
        case measure => omega
        case rel => exact ⟨k + 1, by omega, by go_num, HR.out, HX1.out⟩
    · obtain rfl : k = l.length := by omega
      rw [List.drop_length] at hR
      have HR := Lib.hid hR
      clear hR
      go_wp2_with fail
      go_ret
      exact ⟨by rw [← HR.out]; rfl, HX.out⟩
set_option maxHeartbeats 4000000 in
theorem ContainsFunc_walk (v : Value) (l : List Pc) (w : World) (hv : PcAt w v l) (hl : l.length ≤ 1048576) :
    Calls Tryz.prog 79 #[v, .func (.func 80) #[] #[]] w fun e w' => e = .returned (.bool (badN l)) ∧ Ext [] w w' := by
  have HI := Lib.hid (IndexFunc_walk v l w hv hl)
  have HA := Lib.hid (idxF_any l 0)
  clear hv
  generalize idxF l 0 = r at *
  go_enter Tryz.func79, Tryz.ntmps79
  go_wp2_with fail
  refine HI.out.mono ?_
  rintro e w1 ⟨rfl, hx1⟩
  have HX1 := Lib.hid hx1
  clear hx1
  go_wp2_with fail
  go_ret
  exact ⟨by rw [show badN l = decide (0 ≤ r) from HA.out.symm]; rfl, HX1.out⟩
set_option maxRecDepth 100000 in
set_option maxHeartbeats 8000000 in
theorem Check_walk (v : Value) (l : List Pc) (w : World) (hv : PcAt w v l) (hl : l.length ≤ 1048576) :
    Calls Tryz.prog 55 #[v] w fun e w' => e = .returned (.int .i64 (chkN l)) ∧ Ext [] w w' := by
  have HI := Lib.hid (ContainsFunc_walk v l w hv hl)
  obtain ⟨ao, cap, rfl, hc⟩ := hv
  have HC := Lib.hid hc
  clear hc
  cases hb : badN l
  · obtain ⟨R, hR⟩ : ∃ R, chkL l 0 = R := ⟨_, rfl⟩
    have e : chkN l = R := by unfold chkN; rw [hb]; exact hR
    rw [e]
    have HB := Lib.hid hb
    have HR := Lib.hid hR
    rw [hb] at HI
    clear hb hR e
    go_enter Tryz.func55, Tryz.ntmps55
    go_wp2_with fail
    refine HI.out.mono ?_
    rintro e w1 ⟨rfl, hx1⟩
    have HX1 := Lib.hid hx1
    clear hx1
    go_wp2_with fail
    go_loopg [3, 10] l.length (fun g nv iv wr => ∃ (k : Nat) (n : Int), g + k = l.length ∧ iv = .int .i64 k ∧ nv = .int .i64 n ∧ 0 ≤ n ∧ n ≤ 258 * k ∧ chkL (l.drop k) n = R ∧ Ext [] w wr)
    case atStart => exact ⟨0, 0, by omega, rfl, rfl, by omega, by omega, HR.out, HX1.out⟩
    case round =>
      clear HR HX1
      obtain ⟨k, n, hk, rfl, rfl, hn0, hn1, hR, hx⟩ := hrel
      have HX := Lib.hid hx
      clear hx
      by_cases hlt : k < l.length
      · obtain ⟨b, off, rfl, hcell⟩ := HC.out (by omega)
        obtain ⟨x, hxk⟩ : ∃ x, l[k]? = some x := ⟨_, List.getElem?_eq_getElem hlt⟩
        obtain ⟨c0, c1, c2⟩ := hcell k x hxk
        have d0 := Ext.cell HX.out c0
        have d1 := Ext.cell HX.out c1
        have d2 := Ext.cell HX.out c2
        have hm : mayP x = true := by
          have h := HB.out
          unfold badN at h
          rw [List.any_eq_false] at h
          simpa using h x (List.mem_of_getElem? hxk)
        have hm := mayP_iff x hm
        rw [drop_at hxk, chkL] at hR
        obtain ⟨xb, xl, xd⟩ := x
        simp only at d0 d1 d2 hm hR
        clear hcell c0 c1 c2 hxk
        by_cases hd : n < xd
        · rw [if_pos hd] at hR
          subst hR
          clear hm
          go_wp2_with fail
          go_ret
          exact ⟨rfl, HX.out.alloc _⟩
        · rw [if_neg hd] at hR
          have hd' : xd ≤ n := by omega
          rcases hm with ⟨rfl, _⟩ | ⟨_, hl3, hl4, _⟩
          · have HR := Lib.hid hR
            clear hR hd
            go_wp2_with fail
            go_roundg (l.length - (k + 1))
            case measure => omega
            case rel => exact ⟨k + 1, n + 1, by omega, by go_num, rfl, by omega, by omega, HR.out, HX.out.alloc _⟩
          · rw [Int.max_eq_right (by omega : (1 : Int) ≤ xl)] at hR
            have HR := Lib.hid hR
            have hl1 : 1 ≤ xl := by omega
            clear hR hd
            go_wp2_with fail
            go_roundg (l.length - (k + 1))
            case measure => omega
            case rel => exact ⟨k + 1, n + xl, by omega, by go_num, by first | rfl | rw [Int.max_eq_right (by omega : (1 : Int) ≤ xl)], by omega, by omega, HR.out, HX.out.alloc _⟩
      · obtain rfl : k = l.length := by omega
        rw [List.drop_length] at hR
        have HR := Lib.hid hR
        clear hR
        go_wp2_with fail
        go_ret
        exact ⟨by rw [← HR.out]; rfl, HX.out⟩
  · have e : chkN l = 2 := by unfold chkN; rw [hb]; rfl
    rw [e]
    rw [hb] at HI
    clear hb e
    go_enter Tryz.func55, Tryz.ntmps55
    go_wp2_with fail
    refine HI.out.mono ?_
    rintro e w1 ⟨rfl, hx1⟩
    have HX1 := Lib.hid hx1
    clear hx1
    go_wp2_with fail
    go_ret
    exact ⟨rfl, HX1.out⟩
end Go.Proofs.YtnapnaaejignaaaGreat.Mt

/-! MtK: match.Size, slices.Grow, match.Expand walked. -/
namespace Go.Proofs.YtnapnaaejignaaaGreat.Mt
open Go.RowKit

theorem infoByte9 : (Tryz.prog.info? 5).map (fun i => (i.zero, i.size, i.bytes)) = some (some (.int .u8 0), 1, 1) := by kernel_rfl
/-! ### Expand, plain -/
def repF (d : Nat) : Nat → List UInt8 → List UInt8
  | 0, o => o
  | k + 1, o => repF d k (o ++ [o.getD (o.length - d) 0])
def expL : List Pc → List UInt8 → List UInt8
  | [], o => o
  | p :: l, o => if p.2.1 = 0 then expL l (o ++ [p.1]) else expL l (repF p.2.2.toNat p.2.1.toNat o)
def expN (l : List Pc) (b : Int) : List UInt8 × Int :=
  if chkN l = 0 then if b < 0 then ([], 2) else if b < sumL l 0 then ([], 3) else (expL l [], 0) else ([], chkN l)
theorem repF_len (d : Nat) : ∀ k o, (repF d k o).length = o.length + k
  | 0, o => rfl
  | k + 1, o => by rw [repF, repF_len d k]; simp; omega
theorem chk_zero {l : List Pc} (h : chkN l = 0) : badN l = false ∧ chkL l 0 = 0 := by
  unfold chkN at h
  cases hb : badN l
  · rw [hb] at h; exact ⟨rfl, by simpa using h⟩
  · rw [hb] at h; simp at h
theorem sum_le : ∀ (l : List Pc) (n : Int), badN l = false → 0 ≤ n → n ≤ sumL l n ∧ sumL l n ≤ n + 258 * l.length
  | [], n, _, _ => by simp [sumL]
  | p :: l, n, h, hn => by
    unfold badN at h
    rw [List.any_cons, Bool.or_eq_false_iff] at h
    have hm := mayP_iff p (by simpa using h.1)
    rw [sumL, List.length_cons]
    have := sum_le l (n + max 1 p.2.1) h.2 (by omega)
    omega
theorem sepTail9 {w0 w : World} {a b : Ob} (S : Sep w0 w [a, b]) : Sep w0 w [b] :=
  ⟨S.ext, fun o ho => S.each o (by simp at ho ⊢; exact .inr ho), fun o ho => S.base o (by simp at ho ⊢; exact .inr ho), fun i j o o' hi hj hij => S.apart (i + 1) (j + 1) o o' (by simpa using hi) (by simpa using hj) (by omega)⟩
set_option maxRecDepth 100000 in
theorem run_text9 {w : World} {v : Value} {n : Nat} {l : List UInt8} (h : w.ownsRow 0 5 1 v n (l.map u8v)) : (convert 28 9 v).run Tryz.prog w = .ok (.string (⟨l.toArray⟩)) w := by
  rcases h.2 with ⟨rfl, h0⟩ | ⟨g, cap, cur, rfl, _, hg, hnc, _, hcs, htake⟩
  · have hx : l = [] := by have := h.1; simp [h0] at this; exact this
    subst hx
    exact run_convert_bytes_nil w 28 5 Tryz.underlying28 Tryz.underlying5 0 0 9 Tryz.underlying9
  · have hl : l.length = n := by have := h.1; simpa using this
    have := run_convert_bytes_arg w 28 5 Tryz.underlying28 Tryz.underlying5 g 0 n cap (l.map fun b => ((b.toNat : Nat) : Int)) (by simpa using hl) (fun i hi => by
      have := ownsRow_at (i := i) (u := u8v (l.getD i 0)) h (by rw [List.getElem?_map, List.getElem?_eq_getElem (by omega), List.getD_eq_getElem?_getD, List.getElem?_eq_getElem (by omega)]; rfl)
      rw [Nat.zero_add, this]
      simp [u8v, List.getD_eq_getElem?_getD]
      cases l[i]? <;> rfl) 9 Tryz.underlying9
    have e : strOfNums (l.map fun b => ((b.toNat : Nat) : Int)) = ⟨l.toArray⟩ := by
      simp only [strOfNums, List.map_map]
      congr 2
      refine (List.map_congr_left (fun b _ => ?_)).trans (List.map_id l)
      simp
    rw [e] at this
    exact this
theorem S_map (o : List UInt8) : (⟨o.toArray⟩ : ByteArray).data.toList = o := rfl
end Go.Proofs.YtnapnaaejignaaaGreat.Mt

/-! MtL: pagemenderkit.Same over pieces; the chapter's examples (match). -/
namespace Go.Proofs.YtnapnaaejignaaaGreat.Mt
open Go.RowKit

def pcB (x y : Pc) : Bool := (x.1 == y.1 && x.2.1 == y.2.1) && x.2.2 == y.2.2
theorem pcB_eq {x y : Pc} (h : pcB x y = true) : x = y := by
  obtain ⟨a, b, c⟩ := x
  obtain ⟨a', b', c'⟩ := y
  simp [pcB] at h
  obtain ⟨⟨rfl, rfl⟩, rfl⟩ := h
  rfl
theorem pcB_ne {x y : Pc} (h : pcB x y = false) : x ≠ y := by
  rintro rfl
  simp [pcB] at h
theorem run_neq_pc (x y : Pc) (w : World) : (binOp .neq 94 (.agg #[u8v x.1, .int .i64 x.2.1, .int .i64 x.2.2]) (.agg #[u8v y.1, .int .i64 y.2.1, .int .i64 y.2.2])).run Tryz.prog w = .ok (.bool (!pcB x y)) w := by
  have hS : Tryz.prog.underlying 94 = some (.struct (Tryz.prog.fieldsOf 94)) := by kernel_rfl
  have hp : Tryz.prog.stoodInHeld 94 = false := by kernel_rfl
  have u3 := Tryz.underlying3
  have a3 := Tryz.isAgg3
  have z3 := Tryz.sizeOf3
  have u5 := Tryz.underlying5
  have a5 := Tryz.isAgg5
  have z5 := Tryz.sizeOf5
  rw [run_neq_struct, show (10000 : Nat) = 9999 + 1 from rfl, run_equalIn_agg w 9999 94 _ _ hS hp]
  simp only [Program.fieldsOf, Tryz.underlying94]
  obtain ⟨a, b, c⟩ := x
  obtain ⟨a', b', c'⟩ := y
  have e : ((a.toNat : Int) == (a'.toNat : Int)) = (a == a') := by
    rw [Bool.eq_iff_iff]; simp only [beq_iff_eq]; exact ⟨fun h => UInt8.toNat_inj.1 (by omega), fun h => by rw [h]⟩
  simp only [pcB, ← e]
  go_simp
  by_cases h1 : a = a' <;> by_cases h2 : b = b' <;> by_cases h3 : c = c' <;> simp [h1, h2, h3]
end Go.Proofs.YtnapnaaejignaaaGreat.Mt

/-! MtM: The chapter's examples (match). -/
namespace Go.Proofs.YtnapnaaejignaaaGreat.Mt
open Go.RowKit

theorem PcAt.of_block {w : World} {b cap : Nat} {cs : Array Value} {t : TypeId} {f : Nat × Nat} (l : List Pc) (n : Nat) (hn : l.length = n) (hb : w.heap[b]? = some (.cells cs t f)) (hc : cs.toList = pcC l) : PcAt w (.slice (some ⟨b, 0, none⟩) n cap) l := by
  subst hn
  refine ⟨_, cap, rfl, fun _ => ⟨b, 0, rfl, fun i x hi => ?_⟩⟩
  obtain ⟨h0, h1, h2⟩ := pcC_at l i x hi
  have e : ∀ j, cs[j]? = (pcC l)[j]? := fun j => by rw [← hc, Array.getElem?_toList]
  exact ⟨by rw [cellOf hb, Nat.zero_add, e, h0], by rw [cellOf hb, Nat.zero_add, e, h1], by rw [cellOf hb, Nat.zero_add, e, h2]⟩
def exS : ByteArray := ⟨#[97, 98, 97, 98, 97, 98, 99]⟩
def exL : List Pc := [(97, 0, 0), (98, 0, 0), (0, 4, 2), (99, 0, 0)]
theorem ex_all : allN exS = exL := by decide +kernel
theorem ex_exp : expN exL 9 = ([97, 98, 97, 98, 97, 98, 99], 0) := by decide +kernel
end Go.Proofs.YtnapnaaejignaaaGreat.Mt

/-! MtP: Plain laws of matches: what find tells is the longest, the nearest of those; the pieces of a text make the text. -/
namespace Go.Proofs.YtnapnaaejignaaaGreat.Mt
open Go.RowKit

section
variable (s : ByteArray)
theorem longF_ge (a b : Nat) : ∀ k n, n ≤ longF s a b k n
  | 0, n => Nat.le_refl _
  | k + 1, n => by
    rw [longF]
    split
    · exact Nat.le_trans (Nat.le_succ n) (longF_ge a b k (n + 1))
    · exact Nat.le_refl _
theorem longF_same (a b : Nat) : ∀ k n i, n ≤ i → i < longF s a b k n → byteF s (a + i) = byteF s (b + i)
  | 0, n, i, h1, h2 => by rw [longF] at h2; omega
  | k + 1, n, i, h1, h2 => by
    rw [longF] at h2
    split at h2
    · rename_i h
      by_cases hi : i = n
      · rw [hi]; exact h.2.2
      · exact longF_same a b k (n + 1) i (by omega) h2
    · omega
theorem longF_stop (a b : Nat) : ∀ k n, n ≤ 258 → 259 ≤ k + n → ¬ (longF s a b k n < 258 ∧ b + longF s a b k n < s.size ∧ byteF s (a + longF s a b k n) = byteF s (b + longF s a b k n))
  | 0, n, h1, h2 => by omega
  | k + 1, n, h1, h2 => by
    rw [longF]
    split
    · exact longF_stop a b k (n + 1) (by omega) (by omega)
    · assumption
theorem longN_same (a b i : Nat) (h : i < longN s a b) : byteF s (a + i) = byteF s (b + i) := longF_same s a b 259 0 i (Nat.zero_le _) h
theorem longN_stop (a b : Nat) : ¬ (longN s a b < 258 ∧ b + longN s a b < s.size ∧ byteF s (a + longN s a b) = byteF s (b + longN s a b)) := longF_stop s a b 259 0 (by omega) (by omega)
theorem longN_fit (a b : Nat) (h : b ≤ s.size) : b + longN s a b ≤ s.size := longF_fit s a b 259 0 (by omega)
/-- at least so long, if so many bytes are the same -/
theorem longN_ge (a b m : Nat) (hm : m ≤ 258) (hb : b + m ≤ s.size) (h : ∀ i, i < m → byteF s (a + i) = byteF s (b + i)) : m ≤ longN s a b := by
  apply Decidable.byContradiction
  intro hn
  exact longN_stop s a b ⟨by omega, by omega, h _ (by omega)⟩
theorem long3 (f p : Nat) : (p + 3 ≤ s.size ∧ byteF s f = byteF s p ∧ byteF s (f + 1) = byteF s (p + 1) ∧ byteF s (f + 2) = byteF s (p + 2)) → 3 ≤ longN s f p := fun ⟨h0, h1, h2, h3⟩ =>
  longN_ge s f p 3 (by omega) h0 (fun i hi => by
    match i, hi with
    | 0, _ => exact h1
    | 1, _ => exact h2
    | 2, _ => exact h3)
theorem plc_mem (p f : Nat) (h3 : p + 3 ≤ s.size) : f ∈ plc s p (byteF s p) (byteF s (p + 1)) (byteF s (p + 2)) ↔ f < p ∧ 3 ≤ longN s f p := by
  unfold plc
  rw [List.mem_filter, List.mem_range]
  constructor
  · rintro ⟨h1, h2⟩
    have h2 := of_decide_eq_true h2
    exact ⟨h1, long3 s f p ⟨h3, h2.2.1, h2.2.2.1, h2.2.2.2⟩⟩
  · rintro ⟨h1, h2⟩
    refine ⟨h1, decide_eq_true ⟨by omega, ?_, ?_, ?_⟩⟩
    · exact longN_same s f p 0 (by omega)
    · exact longN_same s f p 1 (by omega)
    · exact longN_same s f p 2 (by omega)

/-- the longest, the nearest of those -/
def Fs (p : Nat) (r : Nat × Nat) : Prop :=
  (r = (0, 0) ∧ ∀ b, 1 ≤ b → b ≤ p → b ≤ 32768 → longN s (p - b) p < 3) ∨
  (3 ≤ r.1 ∧ 1 ≤ r.2 ∧ r.2 ≤ p ∧ r.2 ≤ 32768 ∧ longN s (p - r.2) p = r.1 ∧ (∀ b, 1 ≤ b → b ≤ p → b ≤ 32768 → longN s (p - b) p ≤ r.1) ∧ ∀ b, 1 ≤ b → b < r.2 → longN s (p - b) p < r.1)
theorem Fs_unique (p : Nat) (r q : Nat × Nat) (h : Fs s p r) (k : Fs s p q) : r = q := by
  rcases h with ⟨rfl, h⟩ | ⟨h1, h2, h3, h4, h5, h6, h7⟩
  · rcases k with ⟨rfl, _⟩ | ⟨k1, k2, k3, k4, k5, k6, k7⟩
    · rfl
    · have := h q.2 k2 k3 k4; omega
  · rcases k with ⟨rfl, k⟩ | ⟨k1, k2, k3, k4, k5, k6, k7⟩
    · have := k r.2 h2 h3 h4; omega
    · have e1 : r.1 = q.1 := by
        have := h6 q.2 k2 k3 k4
        have := k6 r.2 h2 h3 h4
        omega
      have e2 : r.2 = q.2 := by
        rcases Nat.lt_trichotomy r.2 q.2 with h | h | h
        · have := k7 r.2 h2 h; omega
        · exact h
        · have := h7 q.2 k2 h; omega
      exact Prod.ext e1 e2
structure Good (p : Nat) (l : List Nat) (st : Nat × Nat) : Prop where
  le : st.1 ≤ 258
  best : ∀ f, f < p → 3 ≤ longN s f p → f ∉ l → p - f ≤ 32768 → longN s f p ≤ st.1
  is : st = (0, 0) ∨ (3 ≤ st.1 ∧ 1 ≤ st.2 ∧ st.2 ≤ p ∧ st.2 ≤ 32768 ∧ longN s (p - st.2) p = st.1 ∧ (∀ f, f < p → 3 ≤ longN s f p → f ∉ l → p - f < st.2 → longN s f p < st.1) ∧ ∀ f ∈ l, st.2 < p - f)
  all : ∀ f ∈ l, f < p ∧ 3 ≤ longN s f p
  ord : l.Pairwise (fun a b => b < a)
theorem Good.end_ {p : Nat} {l : List Nat} {st : Nat × Nat} (h : Good s p l st) (hd : st.1 = 258 ∨ ∀ f ∈ l, 32768 < p - f) : Fs s p st := by
  have key : ∀ b, 1 ≤ b → b ≤ p → b ≤ 32768 → 3 ≤ longN s (p - b) p → longN s (p - b) p ≤ st.1 := fun b h1 h2 h3 h4 => by
    by_cases hm : p - b ∈ l
    · rcases hd with hd | hd
      · rw [hd]; exact longN_le s _ _
      · have := hd _ hm; omega
    · exact h.best (p - b) (by omega) h4 hm (by omega)
  rcases h.is with rfl | ⟨k1, k2, k3, k4, k5, k6, k7⟩
  · exact .inl ⟨rfl, fun b h1 h2 h3 => by
      apply Decidable.byContradiction
      intro hn
      have := key b h1 h2 h3 (by omega)
      simp at this
      omega⟩
  · refine .inr ⟨k1, k2, k3, k4, k5, fun b h1 h2 h3 => ?_, fun b h1 h2 => ?_⟩
    · by_cases h4 : 3 ≤ longN s (p - b) p
      · exact key b h1 h2 h3 h4
      · omega
    · by_cases h4 : 3 ≤ longN s (p - b) p
      · refine k6 (p - b) (by omega) h4 (fun hm => ?_) (by omega)
        have := k7 _ hm; omega
      · omega
theorem findL_spec (p : Nat) : ∀ (l : List Nat) (st : Nat × Nat), Good s p l st → Fs s p (findL s p l st)
  | [], st, h => h.end_ s (.inr (by simp))
  | f :: r, st, h => by
    have hf := h.all f (by simp)
    have hr : ∀ g ∈ r, g < f := fun g hg => (List.pairwise_cons.1 h.ord).1 g hg
    rw [findL]
    split
    · rename_i hb
      refine h.end_ s ?_
      rcases hb with hb | hb
      · refine .inr fun g hg => ?_
        rcases List.mem_cons.1 hg with rfl | hg
        · exact hb
        · have := hr g hg; omega
      · exact .inl hb
    · rename_i hb
      have h1 : p - f ≤ 32768 := by omega
      refine findL_spec p r _ ⟨?_, ?_, ?_, fun g hg => h.all g (by simp [hg]), (List.pairwise_cons.1 h.ord).2⟩
      · split
        · exact longN_le s _ _
        · exact h.le
      · intro g hg1 hg2 hg3 hg4
        by_cases hgf : g = f
        · subst hgf
          split <;> (try simp only) <;> omega
        · have := h.best g hg1 hg2 (by simp [hgf, hg3]) hg4
          split <;> (try simp only) <;> omega
      · split
        · rename_i hlt
          refine .inr ⟨hf.2, by simp; omega, by simp, by simp; omega, by simp; rw [show p - (p - f) = f by omega], fun g hg1 hg2 hg3 hg4 => ?_, fun g hg => ?_⟩
          · have hgf : g ≠ f := fun e => by subst e; simp at hg4
            have := h.best g hg1 hg2 (by simp [hgf, hg3]) (by simp at hg4; omega)
            simp; omega
          · have := hr g hg
            have := (h.all g (by simp [hg])).1
            simp; omega
        · rename_i hlt
          rcases h.is with h0 | ⟨k1, k2, k3, k4, k5, k6, k7⟩
          · rw [h0] at hlt; simp at hlt; omega
          · refine .inr ⟨k1, k2, k3, k4, k5, fun g hg1 hg2 hg3 hg4 => ?_, fun g hg => k7 g (by simp [hg])⟩
            by_cases hgf : g = f
            · subst hgf
              have := k7 g (by simp)
              omega
            · exact k6 g hg1 hg2 (by simp [hgf, hg3]) hg4
theorem findN_spec (p : Nat) (hp : p ≤ s.size) : Fs s p (findN s p) := by
  unfold findN
  split
  · rename_i h3
    refine findL_spec s p _ _ ⟨by simp, fun f h1 h2 h3' _ => ?_, .inl rfl, fun f hf => ?_, ?_⟩
    · exact absurd (List.mem_reverse.2 ((plc_mem s p f h3).2 ⟨h1, h2⟩)) h3'
    · exact (plc_mem s p f h3).1 (List.mem_reverse.1 hf)
    · rw [List.pairwise_reverse]
      unfold plc
      exact List.Pairwise.filter _ List.pairwise_lt_range
  · rename_i h3
    refine .inl ⟨rfl, fun b _ _ _ => ?_⟩
    have := longN_fit s (p - b) p hp
    omega
/-- the reference's way: every distance, the nearest first -/
def rfF (p : Nat) : Nat → Nat → Nat × Nat → Nat × Nat
  | 0, _, st => st
  | k + 1, b, st => if b ≤ p ∧ b ≤ 32768 then rfF p k (b + 1) (if st.1 < longN s (p - b) p then (longN s (p - b) p, b) else st) else st
def rfN (p : Nat) : Nat × Nat := if (rfF s p (p + 1) 1 (0, 0)).1 < 3 then (0, 0) else rfF s p (p + 1) 1 (0, 0)
structure GoodR (p b : Nat) (st : Nat × Nat) : Prop where
  best : ∀ c, 1 ≤ c → c < b → c ≤ p → c ≤ 32768 → longN s (p - c) p ≤ st.1
  is : st.1 = 0 ∨ (1 ≤ st.2 ∧ st.2 < b ∧ st.2 ≤ p ∧ st.2 ≤ 32768 ∧ longN s (p - st.2) p = st.1 ∧ ∀ c, 1 ≤ c → c < st.2 → longN s (p - c) p < st.1)
theorem rfF_spec (p : Nat) : ∀ k b st, 1 ≤ b → p < b + k → GoodR s p b st → GoodR s p (p + 32769) (rfF s p k b st)
  | 0, b, st, h0, hk, h => by
    rw [rfF]
    exact ⟨fun c h1 h2 h3 h4 => h.best c h1 (by omega) h3 h4, h.is.imp id fun ⟨k1, k2, k3, k4, k5⟩ => ⟨k1, by omega, k3, k4, k5⟩⟩
  | k + 1, b, st, h0, hk, h => by
    rw [rfF]
    split
    · rename_i hb
      refine rfF_spec p k (b + 1) _ (by omega) (by omega) ⟨fun c h1 h2 h3 h4 => ?_, ?_⟩
      · by_cases hc : c = b
        · subst hc
          split <;> (try simp only) <;> omega
        · have := h.best c h1 (by omega) h3 h4
          split <;> (try simp only) <;> omega
      · split
        · rename_i hlt
          refine .inr ⟨h0, by simp, hb.1, hb.2, rfl, fun c h1 h2 => ?_⟩
          have := h.best c h1 h2 (by simp at h2; omega) (by simp at h2; omega)
          simp; omega
        · exact h.is.imp id fun ⟨k1, k2, k3, k4, k5⟩ => ⟨k1, by omega, k3, k4, k5⟩
    · rename_i hb
      exact ⟨fun c h1 h2 h3 h4 => h.best c h1 (by omega) h3 h4, h.is.imp id fun ⟨k1, k2, k3, k4, k5⟩ => ⟨k1, by omega, k3, k4, k5⟩⟩
theorem rfN_spec (p : Nat) : Fs s p (rfN s p) := by
  have h := rfF_spec s p (p + 1) 1 (0, 0) (by omega) (by omega) ⟨fun c h1 h2 => by omega, .inl rfl⟩
  unfold rfN
  generalize rfF s p (p + 1) 1 (0, 0) = r at *
  split
  · refine .inl ⟨rfl, fun b h1 h2 h3 => ?_⟩
    have := h.best b h1 (by omega) h2 h3
    omega
  · rcases h.is with h0 | ⟨k1, k2, k3, k4, k5, k6⟩
    · omega
    · exact .inr ⟨by omega, k1, k3, k4, k5, fun b h1 h2 h3 => h.best b h1 (by omega) h2 h3, k6⟩
theorem rfN_eq (p : Nat) (hp : p ≤ s.size) : rfN s p = findN s p := Fs_unique s p _ _ (rfN_spec s p) (findN_spec s p hp)
/-- what find tells, told anew -/
theorem findN_cases (p : Nat) (hp : p ≤ s.size) : findN s p = (0, 0) ∨ (3 ≤ (findN s p).1 ∧ (findN s p).1 ≤ 258 ∧ p + (findN s p).1 ≤ s.size ∧ 1 ≤ (findN s p).2 ∧ (findN s p).2 ≤ p ∧ (findN s p).2 ≤ 32768 ∧ ∀ i, i < (findN s p).1 → byteF s (p - (findN s p).2 + i) = byteF s (p + i)) := by
  rcases findN_spec s p hp with ⟨h, _⟩ | ⟨h1, h2, h3, h4, h5, _, _⟩
  · exact .inl h
  · exact .inr ⟨h1, by rw [← h5]; exact longN_le s _ _, by rw [← h5]; exact longN_fit s _ _ hp, h2, h3, h4, fun i hi => longN_same s _ _ i (by rw [h5]; exact hi)⟩

/-! ### the pieces of a text -/
theorem take_one (p : Nat) (h : p < s.size) : (B s).take p ++ [byteF s p] = (B s).take (p + 1) := by
  rw [List.take_succ_eq_append_getElem (by rw [B_len]; exact h)]
  unfold byteF
  rw [List.getD_eq_getElem?_getD, List.getElem?_eq_getElem (by rw [B_len]; exact h)]
  rfl
theorem repF_take (d : Nat) (h1 : 1 ≤ d) : ∀ m p, d ≤ p → p + m ≤ s.size → (∀ i, i < m → byteF s (p - d + i) = byteF s (p + i)) → repF d m ((B s).take p) = (B s).take (p + m)
  | 0, p, _, _, _ => rfl
  | m + 1, p, hd, hm, h => by
    have hl : ((B s).take p).length = p := by rw [List.length_take, B_len]; omega
    have e : ((B s).take p).getD (((B s).take p).length - d) 0 = byteF s p := by
      rw [hl]
      have h0 := h 0 (by omega)
      rw [Nat.add_zero, Nat.add_zero] at h0
      rw [← h0]
      unfold byteF
      rw [List.getD_eq_getElem?_getD, List.getD_eq_getElem?_getD, List.getElem?_take_of_lt (by omega)]
    rw [repF, e, take_one s p (by omega), repF_take d h1 m (p + 1) (by omega) (by omega) (fun i hi => ?_), show p + 1 + m = p + (m + 1) by omega]
    have := h (i + 1) (by omega)
    rw [show p + 1 - d + i = p - d + (i + 1) by omega, show p + 1 + i = p + (i + 1) by omega]
    exact this
theorem all_exp : ∀ k p, p ≤ s.size → s.size < p + k → expL (allF s k p) ((B s).take p) = B s
  | 0, p, h1, h2 => by omega
  | k + 1, p, h1, h2 => by
    rw [allF]
    by_cases hp : p < s.size
    · rw [if_pos hp]
      rcases findN_cases s p h1 with h | ⟨c1, c2, c3, c4, c5, c6, c7⟩
      · rw [h, if_neg (by simp), expL, if_pos rfl, take_one s p hp]
        exact all_exp k (p + 1) (by omega) (by omega)
      · rw [if_pos (by omega), expL, if_neg (by simp; omega)]
        simp only [Int.toNat_natCast]
        rw [repF_take s _ c4 _ p c5 c3 c7]
        exact all_exp k _ c3 (by omega)
    · rw [if_neg hp, expL, List.take_of_length_le (by rw [B_len]; omega)]
theorem all_may : ∀ k p, p ≤ s.size → badN (allF s k p) = false
  | 0, p, h1 => rfl
  | k + 1, p, h1 => by
    rw [allF]
    by_cases hp : p < s.size
    · rw [if_pos hp]
      rcases findN_cases s p h1 with h | ⟨c1, c2, c3, c4, c5, c6, c7⟩
      · rw [h, if_neg (by simp)]
        unfold badN
        rw [List.any_cons, Bool.or_eq_false_iff]
        exact ⟨rfl, all_may k (p + 1) (by omega)⟩
      · rw [if_pos (by omega)]
        unfold badN
        rw [List.any_cons, Bool.or_eq_false_iff]
        refine ⟨?_, all_may k _ c3⟩
        unfold mayP mayB
        rw [if_neg (by simp; omega)]
        simp
        omega
    · rw [if_neg hp]; rfl
theorem all_chk : ∀ k p, p ≤ s.size → chkL (allF s k p) p = 0
  | 0, p, h1 => rfl
  | k + 1, p, h1 => by
    rw [allF]
    by_cases hp : p < s.size
    · rw [if_pos hp]
      rcases findN_cases s p h1 with h | ⟨c1, c2, c3, c4, c5, c6, c7⟩
      · rw [h, if_neg (by simp), chkL, if_neg (by simp)]
        show chkL (allF s k (p + 1)) ((p : Int) + max 1 0) = 0
        rw [show (p : Int) + max 1 0 = ((p + 1 : Nat) : Int) from by omega]
        exact all_chk k (p + 1) (by omega)
      · rw [if_pos (by omega), chkL, if_neg (by simp; omega)]
        have := all_chk k _ c3
        simp only
        rw [Int.max_eq_right (by omega)]
        exact_mod_cast this
    · rw [if_neg hp]; rfl
theorem all_sum : ∀ k p, p ≤ s.size → s.size < p + k → sumL (allF s k p) p = s.size
  | 0, p, h1, h2 => by omega
  | k + 1, p, h1, h2 => by
    rw [allF]
    by_cases hp : p < s.size
    · rw [if_pos hp]
      rcases findN_cases s p h1 with h | ⟨c1, c2, c3, c4, c5, c6, c7⟩
      · rw [h, if_neg (by simp), sumL]
        show sumL (allF s k (p + 1)) ((p : Int) + max 1 0) = s.size
        rw [show (p : Int) + max 1 0 = ((p + 1 : Nat) : Int) from by omega]
        exact all_sum k (p + 1) (by omega) (by omega)
      · rw [if_pos (by omega), sumL]
        have := all_sum k _ c3 (by omega)
        simp only
        rw [Int.max_eq_right (by omega)]
        exact_mod_cast this
    · rw [if_neg hp, sumL]; omega
theorem allN_chk : chkN (allN s) = 0 := by
  unfold chkN allN
  rw [all_may s _ 0 (by omega)]
  exact all_chk s _ 0 (by omega)
theorem allN_siz : sizN (allN s) = s.size := by
  unfold sizN
  rw [if_pos (allN_chk s)]
  exact all_sum s _ 0 (by omega) (by omega)
theorem allN_sum : sumL (allN s) 0 = s.size := all_sum s _ 0 (by omega) (by omega)
theorem allN_exp : expL (allN s) [] = B s := all_exp s _ 0 (by omega) (by omega)
end
end Go.Proofs.YtnapnaaejignaaaGreat.Mt

/-! MtQ: MatchBack and MatchTimes walked. -/
namespace Go.Proofs.YtnapnaaejignaaaGreat.Mt
open Go.RowKit

theorem allF_len (s : ByteArray) : ∀ k p, p ≤ s.size → (allF s k p).length ≤ s.size - p
  | 0, p, h => by simp [allF]
  | k + 1, p, h => by
    rw [allF]
    by_cases hp : p < s.size
    · rw [if_pos hp]
      have hf := findN_fit s p h
      split
      · have := allF_len s k (p + (findN s p).1) hf
        rw [List.length_cons]; omega
      · have := allF_len s k (p + 1) (by omega)
        rw [List.length_cons]; omega
    · rw [if_neg hp]; simp
theorem allN_len (s : ByteArray) : (allN s).length ≤ s.size := allF_len s _ 0 (Nat.zero_le _)
theorem B_back (s : ByteArray) : (⟨(B s).toArray⟩ : ByteArray) = s := by
  obtain ⟨⟨l⟩⟩ := s
  rfl
theorem All_pc (s : ByteArray) (w : World) (hs : s.size ≤ 1048576) :
    Calls Tryz.prog 32 #[.string s] w fun e w' => ∃ v, e = .returned v ∧ Ext [] w w' ∧ PcAt w' v (allN s) :=
  (All_walk s w hs).mono fun _ _ ⟨v, he, hx, hP, _⟩ => ⟨v, he, hx, PcAt.of_own hP⟩
theorem PcAt.slice {w : World} {v : Value} {l : List Pc} (h : PcAt w v l) : ∃ ao cap, v = .slice ao l.length cap := by
  obtain ⟨ao, cap, rfl, _⟩ := h
  exact ⟨ao, cap, rfl⟩
/-! ### a text so many times over -/
def lonL (z : Nat) : List Pc → Int → Int → Int × Int
  | [], a, c => (a, c)
  | p :: l, a, c => lonL z l (a + max 1 p.2.1) (if (z : Int) ≤ a ∧ p.2.1 = 0 then c + 1 else c)
theorem lone_bound (t : ByteArray) (z : Nat) (h1 : 1 ≤ z) (h2 : z ≤ 32768) (hp : ∀ i, i + z < t.size → byteF t i = byteF t (i + z)) : ∀ k p (c : Int), p ≤ t.size → t.size < p + k →
    (lonL z (allF t k p) p c).1 = t.size ∧ (lonL z (allF t k p) p c).2 ≤ c + 2 ∧ (lonL z (allF t k p) p c).2 ≤ c + (t.size - p : Nat)
  | 0, p, c, h3, h4 => by omega
  | k + 1, p, c, h3, h4 => by
    rw [allF]
    by_cases hlt : p < t.size
    · rw [if_pos hlt]
      rcases findN_cases t p h3 with h | ⟨c1, c2, c3, c4, c5, c6, c7⟩
      · have hs := findN_spec t p h3
        rw [h, if_neg (by simp), lonL]
        have e : (p : Int) + max 1 0 = ((p + 1 : Nat) : Int) := by omega
        simp only
        rw [e]
        by_cases hz : z ≤ p
        · have hsz : t.size < p + 3 := by
            apply Decidable.byContradiction
            intro hn
            rw [h] at hs
            rcases hs with ⟨_, hs⟩ | ⟨hs, _⟩
            · have := hs z h1 hz h2
              have := longN_ge t (p - z) p 3 (by omega) (by omega) (fun i hi => by rw [hp (p - z + i) (by omega), show p - z + i + z = p + i by omega])
              omega
            · simp at hs
          rw [if_pos ⟨by omega, by trivial⟩]
          have := lone_bound t z h1 h2 hp k (p + 1) (c + 1) (by omega) (by omega)
          omega
        · rw [if_neg (fun h => hz (by omega))]
          have := lone_bound t z h1 h2 hp k (p + 1) c (by omega) (by omega)
          omega
      · rw [if_pos (by omega), lonL]
        simp only
        rw [Int.max_eq_right (by omega), if_neg (by omega), show (p : Int) + ((findN t p).1 : Nat) = ((p + (findN t p).1 : Nat) : Int) from by omega]
        have := lone_bound t z h1 h2 hp k (p + (findN t p).1) c c3 (by omega)
        omega
    · rw [if_neg hlt, lonL]
      simp only
      omega
theorem B_app (a b : ByteArray) : B (a ++ b) = B a ++ B b := by
  unfold B
  rw [ByteArray.data_append]
  simp
theorem B_times (s : ByteArray) : ∀ k, B (Kt.times s k) = (List.replicate k (B s)).flatten
  | 0 => rfl
  | k + 1 => by rw [Kt.times, B_app, B_times s k, List.replicate_succ']; simp
theorem times_per (s : ByteArray) (k i : Nat) (h : i + s.size < (Kt.times s k).size) : byteF (Kt.times s k) i = byteF (Kt.times s k) (i + s.size) := by
  have hz := Kt.times_size s k
  cases k with
  | zero => omega
  | succ k =>
    unfold byteF
    rw [B_times]
    have hM : (List.replicate k (B s)).flatten.length = k * s.size := by rw [← B_times, B_len, Kt.times_size]
    rw [Nat.add_mul, Nat.one_mul] at hz
    have e1 : (List.replicate (k + 1) (B s)).flatten = (List.replicate k (B s)).flatten ++ B s := by rw [List.replicate_succ']; simp
    have e2 : (List.replicate (k + 1) (B s)).flatten = B s ++ (List.replicate k (B s)).flatten := by rw [List.replicate_succ]; simp
    rw [List.getD_eq_getElem?_getD, List.getD_eq_getElem?_getD]
    congr 1
    rw [e1, List.getElem?_append_left (by omega), ← e1, e2, List.getElem?_append_right (by rw [B_len]; omega), B_len, Nat.add_sub_cancel]
end Go.Proofs.YtnapnaaejignaaaGreat.Mt
