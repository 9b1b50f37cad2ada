/-
  xstream.ints, numbers walked, of what may be.
-/
import Derived.Test.YtkaimeogebgofaaGreatDoorXtA
import Derived.Test.YtkaimeogebgofaaGreatDoorMpA
namespace Go.Proofs.YtkaimeogebgofaaGreatDoor.Xs
open Go.RowKit
open Go.Proofs.YtkaimeogebgofaaGreatDoor.Tr

def kSize : ByteArray := ⟨#[83, 105, 122, 101]⟩
def kIndex : ByteArray := ⟨#[73, 110, 100, 101, 120]⟩
/-- a tree that is an int alone, or begins with one -/
structure KInt (t : List Nd) (n : Int) : Prop where
  one : 0 < t.length
  kind : (ndAt t 0).kind = 3
  val : (ndAt t 0).n = n
set_option maxRecDepth 100000 in
set_option maxHeartbeats 2000000 in
theorem ints1_walk (dv : Value) (d t : List Nd) (s : ByteArray) (n none : Int) (p o : Nat) (w : World) (h : NodesAt w dv d) (hl : Lt d) (hp : w.cell? ⟨p, 0, Option.none⟩ = some dv) (hg : getN d s = some t) (hI : KInt t n) :
    Calls Tryz.prog 57 #[.string s, .int .i64 none, .pointer (some ⟨p, 0, Option.none⟩), .pointer (some ⟨o, 0, Option.none⟩)] w fun e w' => e = .returned (.int .i64 n) ∧ Ext [] w w' := by
  have HG := Lib.hid (get_walk dv d s w h hl)
  rw [hg] at HG
  obtain ⟨base, cap, rfl, -, -⟩ := h
  have HI := Lib.hid hI
  clear hg hI
  simp only [Option.isSome_some, Option.getD_some] at HG
  go_enter Tryz.func57, Tryz.ntmps57
  go_wp2_with fail
  refine HG.out.mono ?_
  rintro e w1 ⟨v2, rfl, hx, hN⟩
  obtain ⟨tb, tc, rfl, -, hN⟩ := hN
  obtain ⟨b, q, rfl, d1, d2, -⟩ := node_in hN 0 HI.out.one
  rw [Nat.zero_mul, Nat.add_zero, show ((0 : Nat) : Int) = 0 from rfl] at d1 d2
  rw [HI.out.kind] at d1
  rw [HI.out.val] at d2
  obtain ⟨m, hm⟩ : ∃ m, t.length = m := ⟨_, rfl⟩
  have h0 : (0 : Int) < (m : Int) := by have := HI.out.one; omega
  rw [hm]
  have HX := Lib.hid hx
  clear hx HG hN hm
  go_wp2_with fail
  go_ret
  exact ⟨rfl, HX.out⟩
set_option maxRecDepth 100000 in
set_option maxHeartbeats 2000000 in
theorem ints2_walk (o : Nat) (b : Bool) (w : World) (h : w.cell? ⟨o, 0, none⟩ = some (.bool b)) :
    Calls Tryz.prog 58 #[.pointer (some ⟨o, 0, none⟩)] w fun e w' => e = .returned (.bool b) ∧ w' = w := by
  go_enter Tryz.func58, Tryz.ntmps58
  go_wp2_with fail
  go_ret
  exact ⟨rfl, rfl⟩
set_option maxRecDepth 100000 in
set_option maxHeartbeats 2000000 in
theorem ints_walk (base : Option Addr) (n cap : Nat) (w : World) :
    Calls Tryz.prog 46 #[.slice base n cap] w fun e w' => e = .returned (.tuple #[.func (.func 57) #[] #[.pointer (some ⟨w.heap.size, 0, none⟩), .pointer (some ⟨w.heap.size + 1, 0, none⟩)], .func (.func 58) #[] #[.pointer (some ⟨w.heap.size + 1, 0, none⟩)]]) ∧
      w' = (w.alloc (.cells #[.slice base n cap] 28)).alloc (.cells #[.bool false] 4) := by
  go_enter Tryz.func46, Tryz.ntmps46
  go_wp2_with fail
  go_ret2
  exact ⟨rfl, rfl⟩
/-! ### which numbers there are rows of -/
def rangeI (a : Int) (k : Nat) : List Int := (List.range k).map fun i : Nat => a + (i : Int)
theorem rangeI_succ (a : Int) (k : Nat) : rangeI a (k + 1) = rangeI a k ++ [a + (k : Int)] := by
  rw [rangeI, List.range_succ, List.map_append]; rfl
theorem rangeI_len (a : Int) (k : Nat) : (rangeI a k).length = k := by rw [rangeI, List.length_map, List.length_range]
theorem mem_rangeI {a : Int} {k : Nat} {y : Int} (h : y ∈ rangeI a k) : a ≤ y ∧ y < a + k := by
  obtain ⟨i, hi, rfl⟩ := List.mem_map.1 h
  have := List.mem_range.1 hi
  omega
def numsF (N rows : Int) : List Int → List Int → Option (List Int)
  | a :: n :: r, out => if a < 0 ∨ n < 0 ∨ N < a + n ∨ rows < out.length + n ∨ (rangeI a n.toNat).any (fun y => decide (y ∈ out)) = true then none else numsF N rows r (out ++ rangeI a n.toNat)
  | _, out => if (out.length : Int) = rows then some out else none
theorem law_int : Maps.Keyed Tryz.prog 3 := Maps.int_keyed Tryz.underlying3
theorem zeroBool (w : World) : (zeroValue 4).run Tryz.prog w = .ok (.bool false) w := by kernel_rfl
def seenF (l : List Int) : Int → Option Value := fun y => if y ∈ l then some (.bool true) else none
theorem seen_more (l : List Int) (x : Int) : (fun q => if q = x then some (Value.bool true) else seenF l q) = seenF (l ++ [x]) := by
  funext q
  unfold seenF
  by_cases h : q = x
  · simp [h]
  · simp [h]
theorem key_int {x : Int} (h : -9223372036854775808 ≤ x ∧ x ≤ 9223372036854775807) : keyOf Tryz.prog 3 (Mp.mkI x) = some (.int .i64 x) :=
  Maps.keyOf_int_mk Tryz.underlying3 (by simp [Lit.wf, IntKind.min, IntKind.max, IntKind.signed, IntKind.bits]; omega)
theorem seen_made (w : World) : Mp.MapAt Tryz.prog 3 Mp.mkI (w.alloc (.map #[] 0)) w.heap.size 0 (seenF []) := by
  have h := Mp.MapAt.made w Tryz.prog 3 Mp.mkI
  have e : seenF [] = fun _ => none := by funext y; simp [seenF]
  rw [e]
  exact h
theorem numsF_nil (N rows : Int) (out : List Int) : numsF N rows [] out = if (out.length : Int) = rows then some out else none := by rw [numsF]; simp
theorem some_if {α : Type} {c : Prop} [Decidable c] {x y : α} (h : (if c then some x else none) = some y) : c ∧ x = y := by
  split at h
  · rename_i hc
    exact ⟨hc, Option.some.inj h⟩
  · cases h
theorem pair_ints {w : World} {b : Nat} {x y : Int} {t : TypeId} {f : Nat × Nat} (h : w.heap[b]? = some (.cells #[.int .i64 x, .int .i64 y] t f)) : IntsAt w (some ⟨b, 0, none⟩) [x, y] := fun i hi => by
  match i, hi with
  | 0, _ => exact ⟨b, 0, rfl, cellOf h 0⟩
  | 1, _ => exact ⟨b, 0, rfl, cellOf h 1⟩
set_option maxRecDepth 100000 in
set_option maxHeartbeats 8000000 in
theorem numbers21_walk (v : Value) (d t1 : List Nd) (N : Int) (pairs R : List Int) (w : World) (h : NodesAt w v d) (hl : Lt d) (hS : getN d kSize = some t1) (hS1 : KInt t1 N) (hN : 0 ≤ N ∧ N ≤ 8388608)
    (hIx : getN d kIndex = none ∧ pairs = [0, N] ∨ ∃ t2, getN d kIndex = some t2 ∧ KInts t2 pairs) (hp2 : pairs.length % 2 = 0) (hpl : pairs.length ≤ 65536) (hR : numsF N R.length pairs [] = some R) (hRl : R.length ≤ 65536) :
    Calls Tryz.prog 25 #[v, .int .i64 R.length] w fun e w' => ∃ b c, e = .returned (.tuple #[.slice b R.length c, .bool true]) ∧ Ext [] w w' ∧ IntsAt w' b R := by
  obtain ⟨base, cap, rfl, -, -⟩ := id h
  obtain ⟨i0, hif, hz0, hz1, hz2⟩ := info_parts infoInt
  have hmm := @run_makeMap Tryz.prog
  have H0 := Lib.hid (ints_walk base d.length cap w)
  have hx0 : Ext [] w ((w.alloc (.cells #[.slice base d.length cap] 28)).alloc (.cells #[.bool false] 4)) := ((Ext.refl [] w).alloc _).alloc _
  have hb0 := heap_alloc_old (w := w.alloc (.cells #[.slice base d.length cap] 28)) (.cells #[.bool false] 4) (heap_alloc_at (w := w) (.cells #[.slice base d.length cap] 28))
  have hb1 := heap_alloc_at (w := w.alloc (.cells #[.slice base d.length cap] 28)) (.cells #[.bool false] 4)
  rw [show (w.alloc (.cells #[.slice base d.length cap] 28)).heap.size = w.heap.size + 1 from by simp] at hb1
  obtain ⟨W0, hW0⟩ : ∃ W0, (w.alloc (.cells #[.slice base d.length cap] 28)).alloc (.cells #[.bool false] 4) = W0 := ⟨_, rfl⟩
  rw [hW0] at hx0 hb0 hb1 H0
  obtain ⟨p, hp⟩ : ∃ p, w.heap.size = p := ⟨_, rfl⟩
  rw [hp] at hb0 hb1 H0
  have HI := Lib.hid (fun n => ints1_walk _ d t1 kSize N n p (p + 1) W0 (h.ext hx0) hl (cellOf hb0 0) hS hS1)
  have HO := Lib.hid (fun W (hx : Ext [] W0 W) => ints2_walk (p + 1) false W (hx.cell (cellOf hb1 0)))
  have HG := Lib.hid (fun W (hx : Ext [] w W) => get_walk _ d kIndex W (h.ext hx) hl)
  have HX0 := Lib.hid hx0
  have HRn := Lib.hid hR
  unfold kSize at HI
  unfold kIndex at HG
  obtain ⟨dl, hdl⟩ : ∃ dl, d.length = dl := ⟨_, rfl⟩
  rw [hdl] at H0 HG ⊢
  obtain ⟨K, hK⟩ : ∃ K, R.length = K := ⟨_, rfl⟩
  rw [hK] at HRn hRl ⊢
  have HK := Lib.hid hK
  clear hx0 hb0 hb1 hW0 hp hR hdl hK hS hS1 h
  obtain ⟨Kp, hKp⟩ : ∃ Kp, pairs.length = Kp := ⟨_, rfl⟩
  have h1 : ¬ (N < 0) := by omega
  have h2 : ¬ (8388608 < N) := by omega
  rw [hKp] at hp2 hpl
  go_enter Tryz.func25, Tryz.ntmps25
  go_wp2_with fail
  refine H0.out.mono ?_
  rintro e w1 ⟨rfl, rfl⟩
  go_wp2_with fail
  refine (HI.out (-1)).mono ?_
  rintro e w2 ⟨rfl, hx2⟩
  have HX2 := Lib.hid hx2
  clear hx2 HI H0
  go_wp2_with fail
  refine (HO.out _ HX2.out).mono ?_
  rintro e w3 ⟨rfl, rfl⟩
  clear HO
  go_wp2_with fail
  rcases hIx with ⟨hno, hpr⟩ | ⟨t2, hso, hKI⟩
  · subst hpr
    rw [show getN d ({ data := #[73, 110, 100, 101, 120] } : ByteArray) = none from hno] at HG
    simp only [Option.isSome_none, Option.getD_none] at HG
    refine (HG.out _ ((HX0.out.trans HX2.out).alloc _)).mono ?_
    rintro e wc ⟨v2, rfl, hxc, -⟩
    have hbk := hxc.keep (heap_alloc_at (w := w3) (.cells #[.int .i64 0, .int .i64 N] 3)) (by simp)
    obtain ⟨bq, hbq⟩ : ∃ bq, w3.heap.size = bq := ⟨_, rfl⟩
    rw [hbq] at hbk ⊢
    have hpr := pair_ints hbk
    obtain ⟨pb, hpb⟩ : ∃ pb, (some ⟨bq, 0, none⟩ : Option Addr) = pb := ⟨_, rfl⟩
    rw [hpb] at hpr ⊢
    have HPr := Lib.hid hpr
    have HX := Lib.hid (((HX0.out.trans HX2.out).alloc _).trans hxc)
    clear hxc hbk hbq hpb hpr HG hno HX2 HX0
    obtain ⟨pairs, hpairs⟩ : ∃ q, ([0, N] : List Int) = q := ⟨_, rfl⟩
    rw [hpairs] at HRn HPr
    have hKq : pairs.length = 2 := by rw [← hpairs]; rfl
    clear hpairs hKp hp2 hpl
    go_wp2_with fail
    have S := (Sep.start wc).new ((Ext.refl [] wc).alloc (.map #[] 0)) (Mp.oMp Tryz.prog 3 Mp.mkI wc.heap.size 0 (seenF [])) (seen_made wc) (fun k hk => by simp [Mp.oMp] at hk; omega)
    have S := S.new (Ext.refl _ _) (oSl 3 1 (.slice none 0 0) 0 []) (World.ownsRow_nil _ _ _ _) (fun q hq => by simp [oSl, Value.ownBlock] at hq)
    obtain ⟨mb, hmb⟩ : ∃ mb, wc.heap.size = mb := ⟨_, rfl⟩
    rw [hmb] at S ⊢
    have HS := Lib.hid S
    clear S hmb hmm
    go_loopg [13, 15] 2 (fun g ov iv wr => ∃ (j : Nat) (out : List Int), g + j = 2 ∧ j % 2 = 0 ∧ iv = .int .i64 j ∧ numsF N K (pairs.drop j) out = some R ∧ out.length ≤ K ∧ Sep wc wr [oSl 3 1 ov out.length (out.map iz), Mp.oMp Tryz.prog 3 Mp.mkI mb out.length (seenF out)])
    case atStart => exact ⟨0, [], by omega, rfl, rfl, HRn.out, by simp, HS.out⟩
    case round =>
      clear HS
      obtain ⟨j, out, hgj, hj2, rfl, hR, hol, S⟩ := hrel
      by_cases hjK : j < 2
      case neg =>
        obtain rfl : gk = 0 := by omega
        rw [List.drop_eq_nil_of_le (by omega), numsF_nil] at hR
        obtain ⟨ho, hoR⟩ := some_if hR
        subst hoR
        have hr0 : wr.ownsRow 0 3 1 u13 out.length (out.map iz) := S.get 0 rfl
        obtain ⟨bb, cc, rfl, hI⟩ := ints_row hr0
        have HF := Lib.hid (⟨HX.out.trans S.ext, hI⟩ : _ ∧ _)
        clear S hr0 hI hR
        rw [HK.out]
        clear ho
        go_wp2_with fail
        go_ret2
        refine ⟨bb, cc, ?_, HF.out.1, HF.out.2⟩
        simp
      case pos =>
      obtain ⟨g, rfl⟩ : ∃ g, gk = g + 2 := ⟨gk - 2, by omega⟩
      have hj1 : j < pairs.length := by omega
      have hj2' : j + 1 < pairs.length := by omega
      rw [drop_at pairs j hj1, drop_at pairs (j + 1) hj2', numsF] at hR
      obtain ⟨b1, o1, rfl, c1⟩ := HPr.out j hj1
      obtain ⟨b2, o2, e2, c2⟩ := HPr.out (j + 1) hj2'
      cases e2
      generalize pairs[j]'hj1 = a at *
      generalize pairs[j + 1]'hj2' = n at *
      split at hR
      case isTrue => cases hR
      case isFalse hcond =>
      simp only [not_or] at hcond
      obtain ⟨ha0, hn0, hsz, hrw, hany⟩ := hcond
      obtain ⟨nn, rfl⟩ : ∃ nn : Nat, n = (nn : Int) := ⟨n.toNat, by omega⟩
      rw [Int.toNat_natCast] at hR hany
      have hnot : ∀ y ∈ rangeI a nn, y ∉ out := fun y hy hm => hany (List.any_eq_true.2 ⟨y, hy, decide_eq_true hm⟩)
      have hxr := S.ext
      have hjz : (j : Int) < (2 : Int) := by omega
      have hjz1 : (j : Int) + 1 < (2 : Int) := by omega
      have c1 := S.ext.cell c1
      have c2 : wr.cell? ⟨b1, o1 + (j + 1), none⟩ = some (.int .i64 (nn : Int)) := S.ext.cell c2
      have HC := Lib.hid (⟨hR, hnot, S⟩ : _ ∧ _ ∧ _)
      obtain ⟨ol, hol'⟩ : ∃ ol, out.length = ol := ⟨_, rfl⟩
      have hr0 : wr.ownsRow 0 3 1 u13 out.length (out.map iz) := S.get 0 rfl
      obtain ⟨ao3, c3, rfl⟩ := row_slice hr0
      rw [hol'] at hol hrw ⊢
      have HOL := Lib.hid hol'
      have q1 : decide (a < 0) = false := decide_eq_false ha0
      have q2 : decide (N < a + (nn : Int)) = false := decide_eq_false hsz
      have q3 : decide ((K : Int) < (ol : Int) + (nn : Int)) = false := decide_eq_false hrw
      have q4 : decide ((nn : Int) < 0) = false := decide_eq_false hn0
      clear hR hnot S hr0 hol' hxr hany
      go_upto_region 17 with (fail)
      go_quiet (fail)
      clear c1 c2
      rcases Int.le_total a (nn : Int) with hle | hle
      all_goals (
        have qm := (show min a (nn : Int) = _ from by first | exact Int.min_eq_left hle | exact Int.min_eq_right hle)
        go_wp2_with fail
        have S0 := HC.out.2.2.quiet ((Ext.refl [] wr).drewN nq)
        rw [HOL.out] at S0
        have HS0 := Lib.hid S0
        clear S0 q1 q2 q3 q4 qm
        go_loopg [13, 93] nn (fun g2 ov2 kv wx => ∃ k : Nat, g2 + k = nn ∧ kv = .int .i64 k ∧ Sep wc wx [oSl 3 1 ov2 (ol + k) ((out ++ rangeI a k).map iz), Mp.oMp Tryz.prog 3 Mp.mkI mb (ol + k) (seenF (out ++ rangeI a k))])
        case atStart => exact ⟨0, by omega, rfl, by rw [show rangeI a 0 = [] from rfl, List.append_nil]; exact HS0.out⟩
        case round =>
          clear HS0
          obtain ⟨k, hgk, rfl, S⟩ := hrel
          by_cases hkn : k < nn
          case neg =>
            obtain rfl : gk = 0 := by omega
            obtain rfl : k = nn := by omega
            have HE := Lib.hid S
            clear S
            go_wp2_with fail
            go_roundg g
            case measure => omega
            case rel => exact ⟨j + 2, out ++ rangeI a k, by omega, by omega, by go_num, HC.out.1, by rw [List.length_append, HOL.out, rangeI_len]; omega, by rw [List.length_append, HOL.out, rangeI_len]; exact HE.out⟩
          case pos =>
          obtain ⟨g2, rfl⟩ : ∃ g2, gk = g2 + 1 := ⟨gk - 1, by omega⟩
          have hr9 : wr.ownsRow 0 3 1 u13 (ol + k) ((out ++ rangeI a k).map iz) := S.get 0 rfl
          obtain ⟨ao9, c9, rfl⟩ := row_slice hr9
          have hM : Mp.MapAt Tryz.prog 3 Mp.mkI wr mb (ol + k) (seenF (out ++ rangeI a k)) := S.get 1 rfl
          have hnm : seenF (out ++ rangeI a k) (a + (k : Int)) = none := by
            unfold seenF
            rw [if_neg]
            intro hm
            rcases List.mem_append.1 hm with h | h
            · exact HC.out.2.1 _ (List.mem_map.2 ⟨k, List.mem_range.2 hkn, rfl⟩) h
            · have := mem_rangeI h; omega
          have hlook := hM.look law_int Tryz.underlying81 (zeroBool wr) (x := a + (k : Int)) (key_int (by omega))
          rw [hnm, Option.getD_none] at hlook
          have hkz : (k : Int) < (nn : Int) := by omega
          have HS9 := Lib.hid (⟨S, hM⟩ : _ ∧ _)
          obtain ⟨om, hom⟩ : ∃ om, ol + k = om := ⟨_, rfl⟩
          have homl : om ≤ 65536 := by omega
          rw [hom] at HS9 hr9 ⊢
          have HOM := Lib.hid hom
          clear S hM hnm hom hr9
          go_wp2_with (first | (at_mapUpdate; refine Mp.wpList_store_mp rfl _ _ _ 81 rfl 4 law_int Mp.mkI_inj Tryz.underlying81 rfl HS9.out.2 (by unfold maxLen; omega) (a + (k : Int)) (.bool true) _ rfl rfl (key_int (by omega)) ?_; intro w5 hm5 hx5; rw [seen_more] at hm5; have S5 := HS9.out.1.upd 1 (Mp.oMp Tryz.prog 3 Mp.mkI mb (om + 1) (seenF ((out ++ rangeI a k) ++ [a + (k : Int)]))) rfl hx5 (Fr.refl _ _) hm5; have hr5 : w5.ownsRow 0 3 1 (.slice ao9 om c9) om ((out ++ rangeI a k).map iz) := S5.get 0 rfl; have HS5 := Lib.hid (⟨S5, hr5⟩ : _ ∧ _); clear hm5 hx5 S5 hr5 hlook) | (at_builtin; refine wpList_append_lies _ rfl _ _ 45 rfl 0 3 i0 _ 1 8 Tryz.underlying45 hif hz0 hz1 hz2 rfl (by decide) (.slice ao9 om c9) om _ rfl (World.ownsRow.alloc HS5.out.2 _) ⟨w5.heap.size, 0, none⟩ 1 1 [.int .i64 (a + (k : Int))] rfl rfl (cell_one_new _ _ _) (by simp [Value.oneCell']) (by decide) (by unfold maxLen; omega) (by omega) (by omega) (w5.heap.size + 1) (by simp) ?_; intro g6 cap2 w6 hown1 hgrow hat6 hlt6))
          have Pl := push_local (cap := cap2) (n := om + 1) hgrow hat6
          have S7 := HS5.out.1.upd 0 (oSl 3 1 (.slice (some ⟨g6, 0, none⟩) (om + 1) cap2) (om + 1) (((out ++ rangeI a k) ++ [a + (k : Int)]).map iz)) rfl Pl.1 Pl.2 (by rw [List.map_append]; exact hown1)
          go_roundg g2
          case measure => omega
          case rel => exact ⟨k + 1, by omega, by go_num, by
            rw [rangeI_succ, ← List.append_assoc, show ol + (k + 1) = om + 1 from by have := HOM.out; omega]
            exact S7⟩)
  · rw [show getN d ({ data := #[73, 110, 100, 101, 120] } : ByteArray) = some t2 from hso] at HG
    simp only [Option.isSome_some, Option.getD_some] at HG
    refine (HG.out _ ((HX0.out.trans HX2.out).alloc _)).mono ?_
    rintro e wb ⟨v2, rfl, hxb, hN2⟩
    have HA := Lib.hid (array21_walk v2 t2 pairs wb hN2 hKI (by omega))
    have HXb := Lib.hid (((HX0.out.trans HX2.out).alloc _).trans hxb)
    obtain ⟨tb, tc, rfl, -, -⟩ := hN2
    rw [hKp] at HA
    have he1 : Int.tmod (Kp : Int) 2 = 0 := (show Int.tmod (Kp : Int) 2 = ((Kp % 2 : Nat) : Int) from rfl).trans (by omega)
    clear hxb HG hso hKI HX2 HX0
    go_wp2_with fail
    refine HA.out.mono ?_
    rintro e wc ⟨pb, pc, rfl, hxd, hIp⟩
    have HPr := Lib.hid hIp
    have HX := Lib.hid (HXb.out.trans hxd)
    have hKq := hKp
    clear hxd hIp HA HXb hKp
    go_wp2_with fail
    have S := (Sep.start wc).new ((Ext.refl [] wc).alloc (.map #[] 0)) (Mp.oMp Tryz.prog 3 Mp.mkI wc.heap.size 0 (seenF [])) (seen_made wc) (fun k hk => by simp [Mp.oMp] at hk; omega)
    have S := S.new (Ext.refl _ _) (oSl 3 1 (.slice none 0 0) 0 []) (World.ownsRow_nil _ _ _ _) (fun q hq => by simp [oSl, Value.ownBlock] at hq)
    obtain ⟨mb, hmb⟩ : ∃ mb, wc.heap.size = mb := ⟨_, rfl⟩
    rw [hmb] at S ⊢
    have HS := Lib.hid S
    clear S hmb hmm
    go_loopg [13, 15] Kp (fun g ov iv wr => ∃ (j : Nat) (out : List Int), g + j = Kp ∧ j % 2 = 0 ∧ iv = .int .i64 j ∧ numsF N K (pairs.drop j) out = some R ∧ out.length ≤ K ∧ Sep wc wr [oSl 3 1 ov out.length (out.map iz), Mp.oMp Tryz.prog 3 Mp.mkI mb out.length (seenF out)])
    case atStart => exact ⟨0, [], by omega, rfl, rfl, HRn.out, by simp, HS.out⟩
    case round =>
      clear HS
      obtain ⟨j, out, hgj, hj2, rfl, hR, hol, S⟩ := hrel
      by_cases hjK : j < Kp
      case neg =>
        obtain rfl : gk = 0 := by omega
        rw [List.drop_eq_nil_of_le (by omega), numsF_nil] at hR
        obtain ⟨ho, hoR⟩ := some_if hR
        subst hoR
        have hr0 : wr.ownsRow 0 3 1 u13 out.length (out.map iz) := S.get 0 rfl
        obtain ⟨bb, cc, rfl, hI⟩ := ints_row hr0
        have HF := Lib.hid (⟨HX.out.trans S.ext, hI⟩ : _ ∧ _)
        clear S hr0 hI hR
        rw [HK.out]
        clear ho
        go_wp2_with fail
        go_ret2
        refine ⟨bb, cc, ?_, HF.out.1, HF.out.2⟩
        simp
      case pos =>
      obtain ⟨g, rfl⟩ : ∃ g, gk = g + 2 := ⟨gk - 2, by omega⟩
      have hj1 : j < pairs.length := by omega
      have hj2' : j + 1 < pairs.length := by omega
      rw [drop_at pairs j hj1, drop_at pairs (j + 1) hj2', numsF] at hR
      obtain ⟨b1, o1, rfl, c1⟩ := HPr.out j hj1
      obtain ⟨b2, o2, e2, c2⟩ := HPr.out (j + 1) hj2'
      cases e2
      generalize pairs[j]'hj1 = a at *
      generalize pairs[j + 1]'hj2' = n at *
      split at hR
      case isTrue => cases hR
      case isFalse hcond =>
      simp only [not_or] at hcond
      obtain ⟨ha0, hn0, hsz, hrw, hany⟩ := hcond
      obtain ⟨nn, rfl⟩ : ∃ nn : Nat, n = (nn : Int) := ⟨n.toNat, by omega⟩
      rw [Int.toNat_natCast] at hR hany
      have hnot : ∀ y ∈ rangeI a nn, y ∉ out := fun y hy hm => hany (List.any_eq_true.2 ⟨y, hy, decide_eq_true hm⟩)
      have hxr := S.ext
      have hjz : (j : Int) < (Kp : Int) := by omega
      have hjz1 : (j : Int) + 1 < (Kp : Int) := by omega
      have c1 := S.ext.cell c1
      have c2 : wr.cell? ⟨b1, o1 + (j + 1), none⟩ = some (.int .i64 (nn : Int)) := S.ext.cell c2
      have HC := Lib.hid (⟨hR, hnot, S⟩ : _ ∧ _ ∧ _)
      obtain ⟨ol, hol'⟩ : ∃ ol, out.length = ol := ⟨_, rfl⟩
      have hr0 : wr.ownsRow 0 3 1 u13 out.length (out.map iz) := S.get 0 rfl
      obtain ⟨ao3, c3, rfl⟩ := row_slice hr0
      rw [hol'] at hol hrw ⊢
      have HOL := Lib.hid hol'
      have q1 : decide (a < 0) = false := decide_eq_false ha0
      have q2 : decide (N < a + (nn : Int)) = false := decide_eq_false hsz
      have q3 : decide ((K : Int) < (ol : Int) + (nn : Int)) = false := decide_eq_false hrw
      have q4 : decide ((nn : Int) < 0) = false := decide_eq_false hn0
      clear hR hnot S hr0 hol' hxr hany
      go_upto_region 17 with (fail)
      go_quiet (fail)
      clear c1 c2
      rcases Int.le_total a (nn : Int) with hle | hle
      all_goals (
        have qm := (show min a (nn : Int) = _ from by first | exact Int.min_eq_left hle | exact Int.min_eq_right hle)
        go_wp2_with fail
        have S0 := HC.out.2.2.quiet ((Ext.refl [] wr).drewN nq)
        rw [HOL.out] at S0
        have HS0 := Lib.hid S0
        clear S0 q1 q2 q3 q4 qm
        go_loopg [13, 93] nn (fun g2 ov2 kv wx => ∃ k : Nat, g2 + k = nn ∧ kv = .int .i64 k ∧ Sep wc wx [oSl 3 1 ov2 (ol + k) ((out ++ rangeI a k).map iz), Mp.oMp Tryz.prog 3 Mp.mkI mb (ol + k) (seenF (out ++ rangeI a k))])
        case atStart => exact ⟨0, by omega, rfl, by rw [show rangeI a 0 = [] from rfl, List.append_nil]; exact HS0.out⟩
        case round =>
          clear HS0
          obtain ⟨k, hgk, rfl, S⟩ := hrel
          by_cases hkn : k < nn
          case neg =>
            obtain rfl : gk = 0 := by omega
            obtain rfl : k = nn := by omega
            have HE := Lib.hid S
            clear S
            go_wp2_with fail
            go_roundg g
            case measure => omega
            case rel => exact ⟨j + 2, out ++ rangeI a k, by omega, by omega, by go_num, HC.out.1, by rw [List.length_append, HOL.out, rangeI_len]; omega, by rw [List.length_append, HOL.out, rangeI_len]; exact HE.out⟩
          case pos =>
          obtain ⟨g2, rfl⟩ : ∃ g2, gk = g2 + 1 := ⟨gk - 1, by omega⟩
          have hr9 : wr.ownsRow 0 3 1 u13 (ol + k) ((out ++ rangeI a k).map iz) := S.get 0 rfl
          obtain ⟨ao9, c9, rfl⟩ := row_slice hr9
          have hM : Mp.MapAt Tryz.prog 3 Mp.mkI wr mb (ol + k) (seenF (out ++ rangeI a k)) := S.get 1 rfl
          have hnm : seenF (out ++ rangeI a k) (a + (k : Int)) = none := by
            unfold seenF
            rw [if_neg]
            intro hm
            rcases List.mem_append.1 hm with h | h
            · exact HC.out.2.1 _ (List.mem_map.2 ⟨k, List.mem_range.2 hkn, rfl⟩) h
            · have := mem_rangeI h; omega
          have hlook := hM.look law_int Tryz.underlying81 (zeroBool wr) (x := a + (k : Int)) (key_int (by omega))
          rw [hnm, Option.getD_none] at hlook
          have hkz : (k : Int) < (nn : Int) := by omega
          have HS9 := Lib.hid (⟨S, hM⟩ : _ ∧ _)
          obtain ⟨om, hom⟩ : ∃ om, ol + k = om := ⟨_, rfl⟩
          have homl : om ≤ 65536 := by omega
          rw [hom] at HS9 hr9 ⊢
          have HOM := Lib.hid hom
          clear S hM hnm hom hr9
          go_wp2_with (first | (at_mapUpdate; refine Mp.wpList_store_mp rfl _ _ _ 81 rfl 4 law_int Mp.mkI_inj Tryz.underlying81 rfl HS9.out.2 (by unfold maxLen; omega) (a + (k : Int)) (.bool true) _ rfl rfl (key_int (by omega)) ?_; intro w5 hm5 hx5; rw [seen_more] at hm5; have S5 := HS9.out.1.upd 1 (Mp.oMp Tryz.prog 3 Mp.mkI mb (om + 1) (seenF ((out ++ rangeI a k) ++ [a + (k : Int)]))) rfl hx5 (Fr.refl _ _) hm5; have hr5 : w5.ownsRow 0 3 1 (.slice ao9 om c9) om ((out ++ rangeI a k).map iz) := S5.get 0 rfl; have HS5 := Lib.hid (⟨S5, hr5⟩ : _ ∧ _); clear hm5 hx5 S5 hr5 hlook) | (at_builtin; refine wpList_append_lies _ rfl _ _ 45 rfl 0 3 i0 _ 1 8 Tryz.underlying45 hif hz0 hz1 hz2 rfl (by decide) (.slice ao9 om c9) om _ rfl (World.ownsRow.alloc HS5.out.2 _) ⟨w5.heap.size, 0, none⟩ 1 1 [.int .i64 (a + (k : Int))] rfl rfl (cell_one_new _ _ _) (by simp [Value.oneCell']) (by decide) (by unfold maxLen; omega) (by omega) (by omega) (w5.heap.size + 1) (by simp) ?_; intro g6 cap2 w6 hown1 hgrow hat6 hlt6))
          have Pl := push_local (cap := cap2) (n := om + 1) hgrow hat6
          have S7 := HS5.out.1.upd 0 (oSl 3 1 (.slice (some ⟨g6, 0, none⟩) (om + 1) cap2) (om + 1) (((out ++ rangeI a k) ++ [a + (k : Int)]).map iz)) rfl Pl.1 Pl.2 (by rw [List.map_append]; exact hown1)
          go_roundg g2
          case measure => omega
          case rel => exact ⟨k + 1, by omega, by go_num, by
            rw [rangeI_succ, ← List.append_assoc, show ol + (k + 1) = om + 1 from by have := HOM.out; omega]
            exact S7⟩)
end Go.Proofs.YtkaimeogebgofaaGreatDoor.Xs
