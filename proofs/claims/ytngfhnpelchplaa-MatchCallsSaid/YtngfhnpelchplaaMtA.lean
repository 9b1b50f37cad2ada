/-
  match: what a place's key is; 'at' and 'long' walked.
-/
import Derived.Test.YtngfhnpelchplaaKit
import Derived.Test.YtngfhnpelchplaaSep
import Derived.Test.YtngfhnpelchplaaPerm
import Derived.Laws.Rows
import Derived.Laws.IdiomCopy
import Derived.Shelf.Abstract
import Derived.Deep.CutBlock
import Derived.Deep.DeepCutAuto
namespace Go.Proofs.Ytngfhnpelchplaa.Mt
open Go.RowKit
attribute [local go_sem] Oper.semAt_some

def B (s : ByteArray) : List UInt8 := s.data.toList
theorem B_len (s : ByteArray) : (B s).length = s.size := Array.length_toList
def byteF (s : ByteArray) (i : Nat) : UInt8 := (B s).getD i 0
theorem bget (s : ByteArray) (i : Nat) (h : i < s.size) : s[i]'h = byteF s i := by
  unfold byteF
  rw [List.getD_eq_getElem?_getD, List.getElem?_eq_getElem (by rw [B_len]; exact h)]
  rfl
abbrev u8v (x : UInt8) : Value := .int .u8 (x.toNat : Int)
def kv (a b c : UInt8) : Value := .agg #[u8v a, u8v b, u8v c]
def keyV (s : ByteArray) (i : Nat) : Value := kv (byteF s i) (byteF s (i + 1)) (byteF s (i + 2))

theorem take3 (s : ByteArray) (i : Nat) (h3 : i + 3 ≤ s.size) : (s.extract i s.size).data.toList.take 3 = [byteF s i, byteF s (i + 1), byteF s (i + 2)] := by
  rw [ByteArray.data_extract, Array.toList_extract]
  unfold List.extract
  apply List.ext_getElem?
  intro q
  rw [List.getElem?_take]
  by_cases hq : q < 3
  · rw [if_pos hq, List.getElem?_take, if_pos (by omega), List.getElem?_drop]
    have hl : i + q < s.data.toList.length := by rw [Array.length_toList]; show i + q < s.size; omega
    rw [List.getElem?_eq_getElem hl]
    have e : ∀ j, j < 3 → (hj : i + j < s.data.toList.length) → s.data.toList[i + j]'hj = byteF s (i + j) := fun j _ hj => by
      unfold byteF B
      rw [List.getD_eq_getElem?_getD, List.getElem?_eq_getElem hj]
      rfl
    rw [e q hq hl]
    match q, hq with
    | 0, _ => rfl
    | 1, _ => rfl
    | 2, _ => rfl
  · rw [if_neg hq]
    match q, hq with
    | q + 3, _ => simp
theorem copy3 (W : World) (kb : Nat) (x : ByteArray) (a b c : UInt8) (h3 : 3 ≤ x.size) (hx : x.data.toList.take 3 = [a, b, c]) (cs : Array Value) (hcs : cs.size = 3) (hk : W.heap[kb]? = some (.cells cs 55 (0, 0))) :
    ∃ W1, (Builtin.copy_ #[50, 9] 3 #[.slice (some ⟨kb, 0, none⟩) 3 3, .string x]).run Try.prog W = .ok (.int .i64 3) W1 ∧ W1.heap[kb]? = some (.cells #[u8v a, u8v b, u8v c] 55 (0, 0)) ∧ Ext [kb] W W1 := by
  have hmin : Nat.min x.size 3 = 3 := Nat.min_eq_right h3
  have hc : ∀ j, j < 3 → (W.cell? ⟨kb, 0 + j, none⟩).isSome = true := fun j hj => by
    rw [Nat.zero_add, cellOf hk]
    simp; omega
  have hf : ∀ j, j < 3 → W.frozen? ⟨kb, 0 + j, none⟩ = false := fun j hj => by rw [Nat.zero_add]; exact freeOf hk j
  have hst := run_storeCells_cells (P := Try.prog) kb 0 ([a, b, c].map fun x => Value.int .u8 (x.toNat : Int)) 0 W (by simpa using hc) (by simpa using hf) (by
    intro v hv
    obtain ⟨x, _, rfl⟩ := List.mem_map.1 hv
    rfl)
  have hk1 := heap_setCell_same hk (i := 0) (u8v a)
  have hk2 := heap_setCell_same hk1 (i := 1) (u8v b)
  have hk3 := heap_setCell_same hk2 (i := 2) (u8v c)
  refine ⟨W.setCells kb 0 ([a, b, c].map fun x => Value.int .u8 (x.toNat : Int)), ?_, ?_, ?_⟩
  case refine_1 =>
    have hq : (Try.prog.info? 5).map (·.size) = some 1 := by kernel_rfl
    have htk : (x.data.toList.map fun b : UInt8 => Value.int IntKind.u8 (b.toNat : Int)).take 3 = [a, b, c].map fun x => Value.int .u8 (x.toNat : Int) := by rw [← List.map_take, hx]
    cases hq' : Try.prog.info? 5 with
    | none => simp [hq'] at hq
    | some i =>
      simp [Builtin.copy_, run_underlying Try.underlying50, Builtin.lenOf, Builtin.firstCells, sizeOf, typeInfo, hq', hmin]
      rw [htk, hst]
      rfl
  case refine_2 =>
    match cs, hcs with
    | ⟨[x, y, z]⟩, _ => exact hk3
  case refine_3 => exact (((Ext.refl [kb] W).setCell _ _ (.inl (by simp))).setCell _ _ (.inl (by simp))).setCell _ _ (.inl (by simp))
theorem infoKey : (Try.prog.info? 55).map (·.size) = some 3 := by kernel_rfl
theorem results_key {fn : Func} {p q : Tmp} (h : fn.results = #[.cell p 55, .tmp q]) (tmps : Array Value) (w : World) (g : Nat) (x y z v : Value) (hp : tmps.getD p undef = .pointer (some ⟨g, 0, none⟩)) (hq : tmps.getD q undef = v) (hg : w.heap[g]? = some (.cells #[x, y, z] 55 (0, 0))) :
    (results fn tmps).run Try.prog w = .ok (.tuple #[.agg #[x, y, z], v]) w := by
  have hp' : tmps[p]?.getD undef = .pointer (some ⟨g, 0, none⟩) := by simpa using hp
  have hq' : tmps[q]?.getD undef = v := by simpa using hq
  simp [results, h, hp', hq', asAddr, run_loadVar_row w g 55 55 #[x, y, z] (0, 0) _ hg Try.underlying55 rfl infoKey]
abbrev finder (s : ByteArray) (mb : Nat) (nx : Int) : Obj := .cells #[.string s, .map (some mb), .int .i64 nx] 47 (0, 0)
set_option maxRecDepth 100000 in
set_option maxHeartbeats 8000000 in
theorem at_no (fb mb i : Nat) (nx : Int) (s : ByteArray) (w : World) (hf : w.heap[fb]? = some (finder s mb nx)) (hs : s.size ≤ 1048576) (hi : i ≤ s.size) (h3 : s.size < i + 3) :
    Calls Try.prog 31 #[.pointer (some ⟨fb, 0, none⟩), .int .i64 i] w fun e w' => e = .returned (.tuple #[kv 0 0 0, .bool false]) ∧ Ext [] w w' := by
  have i0 : (0 : Int) ≤ (i : Int) := by omega
  have i1 : (s.size : Int) < (i : Int) + 3 := by omega
  go_enter Try.func31, Try.ntmps31
  go_upto_region 1 with (fail)
  have S1 := (Sep.start w).new ((Ext.refl _ w).alloc (.cells #[.int .u8 0, .int .u8 0, .int .u8 0] 55)) (Ob.one w.heap.size (.cells #[.int .u8 0, .int .u8 0, .int .u8 0] 55 (0, 0))) (heap_alloc_at _) (fun q hq => by rw [List.mem_singleton.1 hq]; exact Nat.le_refl _)
  obtain ⟨W0, hW0⟩ : ∃ W0, w.alloc (.cells #[.int .u8 0, .int .u8 0, .int .u8 0] 55) = W0 := ⟨_, rfl⟩
  obtain ⟨kb, hkb⟩ : ∃ kb, w.heap.size = kb := ⟨_, rfl⟩
  rw [hW0, hkb] at S1
  rw [hW0, hkb]
  have hf0 := S1.ext.keep hf (by simp)
  have hk := S1.get 0 rfl
  have c0 : W0.cell? ⟨fb, 0, none⟩ = some (.string s) := cellOf hf0 0
  have k0 : W0.cell? ⟨kb, 0, none⟩ = some (.int .u8 0) := cellOf hk 0
  have k1 : W0.cell? ⟨kb, 1, none⟩ = some (.int .u8 0) := cellOf hk 1
  have k2 : W0.cell? ⟨kb, 2, none⟩ = some (.int .u8 0) := cellOf hk 2
  have z0 : W0.frozen? ⟨kb, 0, none⟩ = false := freeOf hk 0
  have z1 : W0.frozen? ⟨kb, 1, none⟩ = false := freeOf hk 1
  have z2 : W0.frozen? ⟨kb, 2, none⟩ = false := freeOf hk 2
  have HS := Lib.hid S1
  clear S1 hW0 hkb hf0 hk
  go_wp2_with fail
  have Sp := HS.out.upd 0 (Ob.one kb (.cells #[.int .u8 0, .int .u8 0, .int .u8 0] 55 (0, 0))) rfl ((((Ext.refl [kb] W0).setCell ⟨kb, 0, none⟩ (.int .u8 0) (.inl (by simp))).setCell ⟨kb, 1, none⟩ (.int .u8 0) (.inl (by simp))).setCell ⟨kb, 2, none⟩ (.int .u8 0) (.inl (by simp))) (Fr.refl _ _) (heap_setCell_same (heap_setCell_same (heap_setCell_same (HS.out.get 0 rfl) _) _) _)
  exact bodyPost_ret (results_key rfl _ _ kb _ _ _ _ rfl rfl (Sp.get 0 rfl)) rfl ⟨rfl, Sp.ext⟩
set_option maxRecDepth 100000 in
set_option maxHeartbeats 8000000 in
theorem at_yes (fb mb i : Nat) (nx : Int) (s : ByteArray) (w : World) (hf : w.heap[fb]? = some (finder s mb nx)) (hs : s.size ≤ 1048576) (h3 : i + 3 ≤ s.size) :
    Calls Try.prog 31 #[.pointer (some ⟨fb, 0, none⟩), .int .i64 i] w fun e w' => e = .returned (.tuple #[keyV s i, .bool true]) ∧ Ext [] w w' := by
  have i0 : (0 : Int) ≤ (i : Int) := by omega
  have i1 : (i : Int) + 3 ≤ (s.size : Int) := by omega
  go_enter Try.func31, Try.ntmps31
  go_upto_region 1 with (fail)
  have S1 := (Sep.start w).new ((Ext.refl _ w).alloc (.cells #[.int .u8 0, .int .u8 0, .int .u8 0] 55)) (Ob.one w.heap.size (.cells #[.int .u8 0, .int .u8 0, .int .u8 0] 55 (0, 0))) (heap_alloc_at _) (fun q hq => by rw [List.mem_singleton.1 hq]; exact Nat.le_refl _)
  obtain ⟨W0, hW0⟩ : ∃ W0, w.alloc (.cells #[.int .u8 0, .int .u8 0, .int .u8 0] 55) = W0 := ⟨_, rfl⟩
  obtain ⟨kb, hkb⟩ : ∃ kb, w.heap.size = kb := ⟨_, rfl⟩
  rw [hW0, hkb] at S1
  rw [hW0, hkb]
  have hf0 := S1.ext.keep hf (by simp)
  have hk := S1.get 0 rfl
  have c0 : W0.cell? ⟨fb, 0, none⟩ = some (.string s) := cellOf hf0 0
  have k0 : W0.cell? ⟨kb, 0, none⟩ = some (.int .u8 0) := cellOf hk 0
  have k1 : W0.cell? ⟨kb, 1, none⟩ = some (.int .u8 0) := cellOf hk 1
  have k2 : W0.cell? ⟨kb, 2, none⟩ = some (.int .u8 0) := cellOf hk 2
  have z0 : W0.frozen? ⟨kb, 0, none⟩ = false := freeOf hk 0
  have z1 : W0.frozen? ⟨kb, 1, none⟩ = false := freeOf hk 1
  have z2 : W0.frozen? ⟨kb, 2, none⟩ = false := freeOf hk 2
  have HS := Lib.hid S1
  clear S1 hW0 hkb hf0 hk
  go_wp2_with fail
  have y0 : (i : Int) ≤ (s.size : Int) := by omega
  obtain ⟨W1, hcp, hk1, hx1⟩ := copy3 W0.drew kb (s.extract i s.size) _ _ _ (by simp; omega) (take3 s i h3) #[.int .u8 0, .int .u8 0, .int .u8 0] rfl (HS.out.get 0 rfl)
  have Sp := (HS.out.quiet ((Ext.refl _ W0).drew)).upd 0 (Ob.one kb (.cells #[u8v (byteF s i), u8v (byteF s (i + 1)), u8v (byteF s (i + 2))] 55 (0, 0))) rfl hx1 (Fr.refl _ _) hk1
  go_region
  have HS := Lib.hid Sp
  have d0 : W1.cell? ⟨kb, 0, none⟩ = some (u8v (byteF s i)) := cellOf hk1 0
  have d1 : W1.cell? ⟨kb, 1, none⟩ = some (u8v (byteF s (i + 1))) := cellOf hk1 1
  have d2 : W1.cell? ⟨kb, 2, none⟩ = some (u8v (byteF s (i + 2))) := cellOf hk1 2
  have z0 : W1.frozen? ⟨kb, 0, none⟩ = false := freeOf hk1 0
  have z1 : W1.frozen? ⟨kb, 1, none⟩ = false := freeOf hk1 1
  have z2 : W1.frozen? ⟨kb, 2, none⟩ = false := freeOf hk1 2
  have HK1 := Lib.hid hk1
  clear Sp hk1 hx1 hcp c0
  go_wp2_with fail
  have Sp := HS.out.upd 0 (Ob.one kb (.cells #[u8v (byteF s i), u8v (byteF s (i + 1)), u8v (byteF s (i + 2))] 55 (0, 0))) rfl ((((Ext.refl [kb] W1).setCell ⟨kb, 0, none⟩ (u8v (byteF s i)) (.inl (by simp))).setCell ⟨kb, 1, none⟩ (u8v (byteF s (i + 1))) (.inl (by simp))).setCell ⟨kb, 2, none⟩ (u8v (byteF s (i + 2))) (.inl (by simp))) (Fr.refl _ _) (heap_setCell_same (heap_setCell_same (heap_setCell_same (HS.out.get 0 rfl) _) _) _)
  exact bodyPost_ret (results_key rfl _ _ kb _ _ _ _ rfl rfl (Sp.get 0 rfl)) rfl ⟨rfl, Sp.ext⟩
/-- how long a match is, from n on (k: rounds at most) -/
def longF (s : ByteArray) (a b : Nat) : Nat → Nat → Nat
  | 0, n => n
  | k + 1, n => if n < 258 ∧ b + n < s.size ∧ byteF s (a + n) = byteF s (b + n) then longF s a b k (n + 1) else n
def longN (s : ByteArray) (a b : Nat) : Nat := longF s a b 259 0
theorem longF_end (s : ByteArray) (a b k n : Nat) (h : ¬ (n < 258 ∧ b + n < s.size ∧ byteF s (a + n) = byteF s (b + n))) : longF s a b (k + 1) n = n := by rw [longF, if_neg h]
theorem longF_step (s : ByteArray) (a b k n : Nat) (h : n < 258 ∧ b + n < s.size ∧ byteF s (a + n) = byteF s (b + n)) : longF s a b (k + 1) n = longF s a b k (n + 1) := by rw [longF, if_pos h]
set_option maxRecDepth 100000 in
set_option maxHeartbeats 8000000 in
theorem long_walk (fb mb a b : Nat) (nx : Int) (s : ByteArray) (w : World) (hf : w.heap[fb]? = some (finder s mb nx)) (hs : s.size ≤ 1048576) (hb : b < s.size) (hab : a < b) :
    Calls Try.prog 33 #[.pointer (some ⟨fb, 0, none⟩), .int .i64 a, .int .i64 b] w fun e w' => e = .returned (.int .i64 (longN s a b : Nat)) ∧ Ext [] w w' := by
  obtain ⟨R, hR⟩ : ∃ R, longN s a b = R := ⟨_, rfl⟩
  rw [hR]
  unfold longN at hR
  have HR := Lib.hid hR
  have HF := Lib.hid hf
  clear hR hf
  go_enter Try.func33, Try.ntmps33
  go_wp2_with fail
  go_loopg [7] 259 (fun g nv wr => ∃ n : Nat, g + n = 259 ∧ n ≤ 258 ∧ nv = .int .i64 n ∧ longF s a b g n = R ∧ Ext [] w wr)
  case atStart => exact ⟨0, by omega, by omega, rfl, HR.out, Ext.refl _ _⟩
  case round =>
    obtain ⟨n, hgn, hn8, rfl, hL, hx⟩ := hrel
    have hf := hx.keep HF.out (by simp)
    have c0 : wr.cell? ⟨fb, 0, none⟩ = some (.string s) := cellOf hf 0
    have HX := Lib.hid hx
    have HL := Lib.hid hL
    clear hx hL hf
    by_cases h1 : n < 258
    · obtain ⟨g', rfl⟩ : ∃ g', gk = g' + 1 := ⟨gk - 1, by omega⟩
      have j1 : (n : Int) < 258 := by omega
      by_cases h2 : b + n < s.size
      · have j2 : (b : Int) + (n : Int) < (s.size : Int) := by omega
        have ha : a + n < s.size := by omega
        have j3 : (a : Int) + (n : Int) < (s.size : Int) := by omega
        have j4 : (0 : Int) ≤ (a : Int) + (n : Int) := by omega
        have j5 : (0 : Int) ≤ (b : Int) + (n : Int) := by omega
        have t1 : ((a : Int) + (n : Int)).toNat = a + n := by omega
        have t2 : ((b : Int) + (n : Int)).toNat = b + n := by omega
        obtain ⟨x, hx⟩ : ∃ x, s[a + n]'ha = x := ⟨_, rfl⟩
        obtain ⟨y, hy⟩ : ∃ y, s[b + n]'h2 = y := ⟨_, rfl⟩
        have hbx : byteF s (a + n) = x := by rw [← bget s _ ha, hx]
        have hby : byteF s (b + n) = y := by rw [← bget s _ h2, hy]
        by_cases h3 : x = y
        · have hst := longF_step s a b g' n ⟨h1, h2, by rw [hbx, hby, h3]⟩
          rw [HL.out] at hst
          have HST := Lib.hid hst
          subst h3
          clear hst hbx hby
          go_wp2_with fail
          go_region
          go_wp2_with fail
          go_roundg g'
          case measure => omega
          case rel => exact ⟨n + 1, by omega, by omega, by go_num, HST.out.symm, HX.out.drew⟩
        · have hen := longF_end s a b g' n (by rw [hbx, hby]; exact fun h => h3 h.2.2)
          rw [HL.out] at hen
          have hne : ¬ ((x.toNat : Nat) : Int) = ((y.toNat : Nat) : Int) := fun h => h3 (UInt8.toNat_inj.1 (by omega))
          have q1 : (((x.toNat : Nat) : Int) == ((y.toNat : Nat) : Int)) = false := beq_eq_false_iff_ne.2 hne
          have HEN := Lib.hid hen
          clear hen hbx hby hne h3
          go_wp2_with fail
          go_region
          go_wp2_with fail
          go_ret
          exact ⟨by rw [HEN.out]; rfl, HX.out.drew⟩
      · have j2 : (s.size : Int) ≤ (b : Int) + (n : Int) := by omega
        have j5 : (0 : Int) ≤ (b : Int) + (n : Int) := by omega
        have j6 : (b : Int) + (n : Int) < 2000000 := by omega
        have j7 : decide ((b : Int) + (n : Int) < (s.size : Int)) = false := decide_eq_false (by omega)
        have hen := longF_end s a b g' n (fun h => h2 h.2.1)
        rw [HL.out] at hen
        have HEN := Lib.hid hen
        clear hen
        go_wp2_with fail
        go_region
        go_wp2_with fail
        go_ret
        exact ⟨by rw [HEN.out]; rfl, HX.out.drew⟩
    · obtain rfl : n = 258 := by omega
      obtain ⟨g', rfl⟩ : ∃ g', gk = g' + 1 := ⟨gk - 1, by omega⟩
      have hen := longF_end s a b g' 258 (fun h => h1 h.1)
      rw [HL.out] at hen
      have HEN := Lib.hid hen
      clear hen
      go_wp2_with fail
      go_region
      go_wp2_with fail
      go_ret
      exact ⟨by rw [HEN.out]; rfl, HX.out.drew⟩
end Go.Proofs.Ytngfhnpelchplaa.Mt
