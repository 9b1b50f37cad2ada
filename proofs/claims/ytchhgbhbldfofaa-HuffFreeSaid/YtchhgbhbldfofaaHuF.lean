/-
  huff.deep walked.
-/
import Derived.Test.YtchhgbhbldfofaaHuE
import Derived.Laws.OwnMore
import Derived.IntWalk
namespace Go.Proofs.Ytchhgbhbldfofaa.Hu
open Go.RowKit

/-! ### plain -/
def zers (n : Nat) : List Int := List.replicate n 0
def topD (n : Nat) : List Nd → List Int
  | x :: _ => setD x 0 (zers n)
  | [] => zers n
def deepN (l : List Int) : List Int :=
  match leavesF l 0 with
  | [x] => (zers l.length).set x.age 1
  | _ => topD l.length (mrgF (leavesF l 0).length 0 (srtS (leavesF l 0)))
theorem deepN_one {l : List Int} {x : Nd} (h : leavesF l 0 = [x]) : deepN l = (zers l.length).set x.age 1 := by unfold deepN; rw [h]
theorem deepN_more {l : List Int} (h : (leavesF l 0).length ≠ 1) : deepN l = topD l.length (mrgF (leavesF l 0).length 0 (srtS (leavesF l 0))) := by
  unfold deepN
  split
  · rename_i heq
    rw [heq] at h
    simp at h
  · rfl
def sumC : List Nd → Int
  | [] => 0
  | x :: L => x.cnt + sumC L
theorem sumC_ins (x : Nd) : ∀ L, sumC (insS x L) = x.cnt + sumC L
  | [] => rfl
  | y :: L => by
    rw [insS]
    split
    · rfl
    · rw [sumC, sumC_ins x L, sumC]; omega
theorem sumC_srt : ∀ L, sumC (srtS L) = sumC L
  | [] => rfl
  | x :: L => by rw [srtS, sumC_ins, sumC_srt L, sumC]
theorem sumC_leaves : ∀ (l : List Int) (k : Nat), (∀ c ∈ l, c ≤ 1099511627776) → sumC (leavesF l k) ≤ 1099511627776 * l.length
  | [], k, _ => by simp [leavesF, sumC]
  | c :: l, k, h => by
    have hc := h c (by simp)
    have := sumC_leaves l (k + 1) (fun d hd => h d (by simp [hd]))
    rw [leavesF, List.length_cons]
    split
    · rw [sumC, Nd.cnt]; omega
    · omega
structure Inv (n g : Nat) (T : Int) (L : List Nd) : Prop where
  young : Young g L
  pos : ∀ x ∈ L, 0 < x.cnt
  sum : sumC L = T
  sz : ∀ x ∈ L, NdS n x ∧ hgt x ≤ g
theorem sumC_nn {L : List Nd} (h : ∀ x ∈ L, 0 < x.cnt) : 0 ≤ sumC L := by
  induction L with
  | nil => exact Int.le_refl 0
  | cons x L ih =>
    have := h x (by simp)
    have := ih (fun y hy => h y (by simp [hy]))
    rw [sumC]; omega
theorem Inv.two {n g : Nat} {T : Int} {a b : Nd} {L : List Nd} (h : Inv n g T (a :: b :: L)) : 0 < a.cnt ∧ 0 < b.cnt ∧ a.cnt + b.cnt ≤ T := by
  have h1 := h.pos a (by simp)
  have h2 := h.pos b (by simp)
  have h3 := sumC_nn (L := L) (fun y hy => h.pos y (by simp [hy]))
  have h4 := h.sum
  rw [sumC, sumC] at h4
  omega
theorem Inv.step {n g : Nat} {T : Int} {a b : Nd} {L : List Nd} (h : Inv n g T (a :: b :: L)) : Inv n (g + 1) T (insS (.join (a.cnt + b.cnt) g a b) L) := by
  have ht := h.two
  refine ⟨h.young.step, fun x hx => ?_, ?_, fun x hx => ?_⟩
  · rcases List.mem_cons.1 ((insS_perm _ L).mem_iff.1 hx) with rfl | hx
    · simp [Nd.cnt]; simp [Nd.cnt] at ht; omega
    · exact h.pos x (by simp [hx])
  · have := h.sum
    rw [sumC, sumC] at this
    rw [sumC_ins, Nd.cnt]
    omega
  · rcases List.mem_cons.1 ((insS_perm _ L).mem_iff.1 hx) with rfl | hx
    · have h1 := h.sz a (by simp)
      have h2 := h.sz b (by simp)
      exact ⟨⟨h1.1, h2.1⟩, by unfold hgt; omega⟩
    · have := h.sz x (by simp [hx])
      exact ⟨this.1, by omega⟩
theorem inv_start (l : List Int) : Inv l.length 0 (sumC (leavesF l 0)) (srtS (leavesF l 0)) := by
  have hm : ∀ x ∈ srtS (leavesF l 0), x ∈ leavesF l 0 := fun x hx => (srtS_perm _).mem_iff.1 hx
  refine ⟨fun x hx hmk => ?_, fun x hx => ?_, sumC_srt _, fun x hx => ?_⟩
  · obtain ⟨c, s, rfl, _⟩ := leavesF_mem l 0 x (hm x hx)
    cases hmk
  · obtain ⟨c, s, rfl, _, _, h, _⟩ := leavesF_mem l 0 x (hm x hx)
    exact h
  · obtain ⟨c, s, rfl, _, h, _, _⟩ := leavesF_mem l 0 x (hm x hx)
    exact ⟨by simpa [NdS] using h, Nat.le_refl _⟩
theorem mrgF_stop (k g : Nat) (L : List Nd) (h : L.length ≤ 1) : mrgF k g L = L := by
  match k, L, h with
  | 0, _, _ => rfl
  | k + 1, [], _ => rfl
  | k + 1, [x], _ => rfl
/-! ### the heap as an object -/
def oHp (lb : Nat) (v : Value) (N : List Nat) (H : List Pn) : Ob where
  F := lb :: (v.ownBlock.toList ++ N)
  P := fun w => HpO w lb v N H
  ok := fun h hx hS => h.ext hx (hS _ (by simp)) (fun g hg => hS g (by simp [hg])) (fun k hk => hS k (by simp [hk]))
  lt := fun h k hk => by
    rcases List.mem_cons.1 hk with rfl | hk
    · exact lt_of_block h.var
    · rcases List.mem_append.1 hk with hk | hk
      · exact (h.row.own.lt k (by simpa using hk)).2
      · exact h.row.lt k hk
/-- something is pushed: the new row is stored into the variable -/
theorem hpo_add {w w1 : World} {lb : Nat} {v : Value} {N : List Nat} {H : List Pn} {a : Nat} {x : Nd} {O : Obj} {g cap : Nat} (hO : HpO w lb v N H) (ha : NdAt w N a x)
    (hown : w1.ownsRow 0 92 1 (.slice (some ⟨g, 0, none⟩) (H.length + 1) cap) (H.length + 1) (H.map pv ++ [ptr a])) (hgrow : (w.alloc O).grownBy w1 v.ownBlock) (hat : v.ownBlock = some g ∨ g = w.heap.size + 1) :
    HpO (w1.setCell ⟨lb, 0, none⟩ (.slice (some ⟨g, 0, none⟩) (H.length + 1) cap)) lb (.slice (some ⟨g, 0, none⟩) (H.length + 1) cap) N (H ++ [(a, x)]) ∧ Ext (lb :: v.ownBlock.toList) w (w1.setCell ⟨lb, 0, none⟩ (.slice (some ⟨g, 0, none⟩) (H.length + 1) cap)) := by
  obtain ⟨p1, p2, p3, p4, p5⟩ := push_field hO.var hO.ne hown hgrow hat 0
  have hNF : ∀ k ∈ N, k ∉ lb :: v.ownBlock.toList := fun k hk h => by
    rcases List.mem_cons.1 h with rfl | h
    · exact hO.nN hk
    · exact hO.row.far k (by simpa using h) hk
  have hgN : g ∉ N := fun hk => by
    rcases hat with h | h
    · exact hO.row.far g h hk
    · have := hO.row.lt g hk; omega
  have hlen : (H ++ [(a, x)]).length = H.length + 1 := by simp
  refine ⟨⟨p1, ⟨?_, fun k hk => ?_, fun p hp => ?_, fun k hk => Nat.lt_of_lt_of_le (hO.row.lt k hk) p3.size⟩, fun e => p4 (by simpa [Value.ownBlock] using e), hO.nN⟩, p3⟩
  · rw [hlen, List.map_append]
    exact p2
  · obtain rfl : g = k := by simpa [Value.ownBlock] using hk
    exact hgN
  · rcases List.mem_append.1 hp with hp | hp
    · exact (hO.row.nds p hp).ext p3 hNF
    · rw [List.mem_singleton.1 hp]
      exact ha.ext p3 hNF
/-- more blocks of nodes -/
theorem HpO.wide {w : World} {lb : Nat} {v : Value} {N M : List Nat} {H : List Pn} (h : HpO w lb v N H) (hM : ∀ k ∈ M, k < w.heap.size ∧ k ≠ lb ∧ v.ownBlock ≠ some k) : HpO w lb v (M ++ N) H :=
  ⟨h.var, ⟨h.row.own, fun g hg hm => by
      rcases List.mem_append.1 hm with hm | hm
      · exact (hM g hm).2.2 hg
      · exact h.row.far g hg hm, fun p hp => (h.row.nds p hp).mono (fun k hk => List.mem_append_right _ hk), fun k hk => by
      rcases List.mem_append.1 hk with hk | hk
      · exact (hM k hk).1
      · exact h.row.lt k hk⟩, h.ne, fun hm => by
      rcases List.mem_append.1 hm with hm | hm
      · exact (hM lb hm).2.1 rfl
      · exact h.nN hm⟩
theorem hp_start (w : World) : HpO (w.alloc (.cells #[.slice none 0 0] 91)) w.heap.size (.slice none 0 0) [] [] :=
  ⟨heap_alloc_at _, ⟨World.ownsRow_nil _ _ _ _, by simp, by simp, by simp⟩, by simp [Value.ownBlock], by simp⟩
theorem leaves_take (l : List Int) : ∀ (k j : Nat) (c : Int), l[k]? = some c → leavesF (l.drop k) j = if 0 < c then .leaf c j :: leavesF (l.drop (k + 1)) (j + 1) else leavesF (l.drop (k + 1)) (j + 1) := by
  intro k j c h
  obtain ⟨h1, h2⟩ := List.getElem?_eq_some_iff.1 h
  rw [List.drop_eq_getElem_cons h1, h2, leavesF]
theorem popL_own {v v' : Value} {lb : Nat} {N : List Nat} (h : v'.ownBlock = v.ownBlock) : (oHp lb v' N []).F = (oHp lb v N []).F := by
  show lb :: (v'.ownBlock.toList ++ N) = lb :: (v.ownBlock.toList ++ N)
  rw [h]
theorem zers_len (n : Nat) : (zers n).length = n := by simp [zers]
theorem assertNode2 (a : Nat) (w : World) : (Instr.typeAssert (.iface 92 (ptr a)) 20 92 false).run Try.prog w = .ok (ptr a) w := assertNode a w
/-- two pops, the second one's world being known -/
theorem leaf_of {x : Nd} {l : List Int} (h : leavesF l 0 = [x]) : ∃ c s, x = .leaf c s ∧ s < l.length := by
  obtain ⟨c, s, e, _, h2, _, _⟩ := leavesF_mem l 0 x (by rw [h]; simp)
  exact ⟨c, s, e, by omega⟩
set_option maxRecDepth 100000 in
set_option maxHeartbeats 16000000 in
theorem deep_walk (v : Value) (l : List Int) (w : World) (hv : IntsAt w v l) (hl : l.length ≤ 1000) (hb : ∀ c ∈ l, c ≤ 1099511627776) :
    Calls Try.prog 40 #[v] w fun e w' => ∃ v', e = .returned v' ∧ Ext [] w w' ∧ (oSl 3 1 v' l.length ((deepN l).map iz)).P w' ∧ ∀ k ∈ v'.ownBlock.toList, w.heap.size ≤ k := by
  obtain ⟨i0, hif, hz0, hz1, hz2⟩ := info_parts infoNodeP
  obtain ⟨j0, hjf, hy0, hy1, hy2⟩ := info_parts infoInt7
  obtain ⟨ao, cap, rfl, hc⟩ := hv
  obtain ⟨R, hR⟩ : ∃ R, leavesF l 0 = R := ⟨_, rfl⟩
  obtain ⟨D, hD⟩ : ∃ D, deepN l = D := ⟨_, rfl⟩
  rw [hD]
  have HD := Lib.hid hD
  clear hD
  have HC := Lib.hid hc
  have HB := Lib.hid hb
  have HR := Lib.hid hR
  have HLV := Lib.hid hR
  clear hc hb hR
  go_enter Try.func40, Try.ntmps40
  go_wp2_with fail
  have HS := Lib.hid ((Sep.start w).new ((Ext.refl _ w).alloc _) (oHp w.heap.size (.slice none 0 0) [] []) (hp_start w) (fun k hk => by simp [oHp, Value.ownBlock] at hk; omega))
  obtain ⟨lb, hlb⟩ : ∃ lb, w.heap.size = lb := ⟨_, rfl⟩
  rw [hlb] at HS
  rw [hlb]
  clear hlb
  go_loopg [14] l.length (fun g iv wr => ∃ (k : Nat) (vv : Value) (N : List Nat) (H : List Pn), g + k = l.length ∧ iv = .int .i64 k ∧ H.length ≤ k ∧ H.map (·.2) ++ leavesF (l.drop k) k = R ∧ Sep w wr [oHp lb vv N H])
  case atStart => exact ⟨0, _, [], [], by omega, rfl, by simp, by simpa using HR.out, HS.out⟩
  case round =>
    clear HS HR
    obtain ⟨k, vv, N, H, hk, rfl, hHk, hR, S⟩ := hrel
    by_cases hlt : k < l.length
    · obtain ⟨b, off, rfl, hcell⟩ := HC.out (by omega)
      obtain ⟨c, hck⟩ : ∃ c, l[k]? = some c := ⟨_, List.getElem?_eq_getElem hlt⟩
      have d0 := Ext.cell S.ext (hcell k c hck)
      rw [leaves_take l k k c hck] at hR
      have HS := Lib.hid S
      clear hcell hck S
      by_cases h0 : 0 < c
      · rw [if_pos h0] at hR
        have HR := Lib.hid hR
        have hO : HpO wr lb vv N H := HS.out.get 0 rfl
        have c0 : wr.cell? ⟨lb, 0, none⟩ = some vv := cellOf hO.var 0
        have hown := hO.row.own
        have HO := Lib.hid hO
        clear hR hO
        have hblk : ((wr.alloc (.cells #[iz c, .bool false, .int .i64 k, .slice none 0 0] 94)).alloc (.cells #[ptr wr.heap.size] 92)).heap[wr.heap.size + 1]? = some (.cells #[ptr wr.heap.size] 92 (0, 0)) := by
          have := heap_alloc_at (w := wr.alloc (.cells #[iz c, .bool false, .int .i64 k, .slice none 0 0] 94)) (.cells #[ptr wr.heap.size] 92)
          simpa using this
        go_wp2_with (at_builtin; refine wpList_append_lies _ rfl _ _ 91 rfl 0 92 i0 _ 1 8 Try.underlying91 hif hz0 hz1 hz2 rfl (by decide) vv H.length _ rfl (World.ownsRow.alloc (World.ownsRow.alloc hown _) _) ⟨wr.heap.size + 1, 0, none⟩ 1 1 [ptr wr.heap.size] rfl rfl (World.news_of_block hblk) (by simp [Value.oneCell']) (by decide) (by unfold maxLen; omega) (by omega) (by omega) (wr.heap.size + 1 + 1) (by simp) ?_; intro g cap2 w6 hown1 hgrow hat hlt6; clear c0; have c1 : w6.cell? ⟨lb, 0, none⟩ = some vv := cellOf (grown_keep hgrow (heap_alloc_old _ (heap_alloc_old _ HO.out.var)) HO.out.ne) 0; have f1 : w6.frozen? ⟨lb, 0, none⟩ = false := freeOf (grown_keep hgrow (heap_alloc_old _ (heap_alloc_old _ HO.out.var)) HO.out.ne) 0; have HG := Lib.hid (⟨hown1, hgrow, hat⟩ : _ ∧ _ ∧ _); clear hown1 hgrow hat hlt6 hblk)
        go_roundg (l.length - (k + 1))
        case measure => omega
        case rel =>
          obtain ⟨hown1, hgrow, hat⟩ := HG.out
          have hO := HO.out
          have hx1 : Ext [] wr (wr.alloc (.cells #[iz c, .bool false, .int .i64 k, .slice none 0 0] 94)) := (Ext.refl _ _).alloc _
          have hlt0 := lt_of_block hO.var
          have hO1 := (hO.quiet hx1).wide (M := [wr.heap.size]) (fun q hq => by
            rw [List.mem_singleton] at hq
            subst hq
            exact ⟨by simp, by omega, fun e => by have := (hO.row.own.lt _ e).2; omega⟩)
          have hnd : NdAt (wr.alloc (.cells #[iz c, .bool false, .int .i64 k, .slice none 0 0] 94)) ([wr.heap.size] ++ N) wr.heap.size (.leaf c k) := ⟨by simp, heap_alloc_at _⟩
          obtain ⟨hO2, hx2⟩ := hpo_add hO1 hnd hown1 hgrow (hat.imp id (fun h => by simpa using h))
          have hx3 : Ext (oHp lb vv N H).F wr (w6.setCell ⟨lb, 0, none⟩ (.slice (some ⟨g, 0, none⟩) (H.length + 1) cap2)) := hx1.weak.trans (hx2.mono (fun q _ hq => by
            rcases List.mem_cons.1 hq with rfl | hq
            · simp [oHp]
            · simp [oHp] at hq ⊢; simp [hq]))
          refine ⟨k + 1, .slice (some ⟨g, 0, none⟩) (H.length + 1) cap2, [wr.heap.size] ++ N, H ++ [(wr.heap.size, .leaf c k)], by omega, by go_num, by simp; omega, ?_, ?_⟩
          · rw [List.map_append, List.append_assoc]
            exact HR.out
          · refine HS.out.upd 0 (oHp lb _ _ _) rfl hx3 (fun q hq => ?_) hO2
            simp [oHp, Value.ownBlock] at hq ⊢
            rcases hq with rfl | rfl | rfl | hq
            · exact .inl (.inl rfl)
            · rcases hat with h | h
              · exact .inl (.inr (.inl h))
              · exact .inr (by omega)
            · exact .inr (Nat.le_refl _)
            · exact .inl (.inr (.inr hq))
      · rw [if_neg h0] at hR
        have HR := Lib.hid hR
        clear hR
        go_wp2_with fail
        go_roundg (l.length - (k + 1))
        case measure => omega
        case rel => exact ⟨k + 1, vv, N, H, by omega, by go_num, by omega, HR.out, HS.out⟩
    · obtain rfl : k = l.length := by omega
      rw [List.drop_length] at hR
      have hRH : H.map (·.2) = R := by simpa [leavesF] using hR
      clear hR
      have hO : HpO wr lb vv N H := S.get 0 rfl
      obtain ⟨w2, hmk, hown, hgrow⟩ := run_make_full (P := Try.prog) wr 0 22 3 j0 (.int .i64 0) 1 Try.underlying22 hjf hy0 hy1 .i64 .i64 l.length (by rw [hy2]; omega) (by unfold maxLen; omega) (by omega)
      have hx2 : Ext [] wr w2 := (Ext.refl [] wr).grown hgrow (fun k hk => by cases hk)
      have S := S.new hx2 (oSl 3 1 (.slice (some ⟨wr.heap.size, 0, none⟩) l.length l.length) l.length ((zers l.length).map iz)) (by
        have hm : (madeCells (Value.int .i64 0).cells (l.length * 1)).toList = (zers l.length).map iz := by
          unfold zers
          rw [List.map_replicate, Nat.mul_one]
          exact toList_madeCells_one _ _
        rw [← hm]; exact hown) (fun q hq => by simp [oSl, Value.ownBlock] at hq; omega)
      have HS := Lib.hid S
      clear hx2 hown hgrow S
      obtain ⟨q, hq⟩ : ∃ q, wr.heap.size = q := ⟨_, rfl⟩
      rw [hq] at hmk HS
      clear hq hO
      have hO : HpO w2 lb vv N H := HS.out.get 1 rfl
      have c0 : w2.cell? ⟨lb, 0, none⟩ = some vv := cellOf hO.var 0
      obtain ⟨ao2, cap2, rfl⟩ := hO.slice
      by_cases h1 : H.length = 1
      · obtain ⟨⟨a, x⟩, rfl⟩ : ∃ p, H = [p] := List.length_eq_one_iff.1 h1
        have hlv : leavesF l 0 = [x] := by rw [HLV.out, ← hRH]; rfl
        obtain ⟨c, s, rfl, hs⟩ := leaf_of hlv
        have hd := deepN_one hlv
        rw [show (Nd.leaf c s).age = s from rfl] at hd
        rw [HD.out] at hd
        subst hd
        obtain ⟨g, cap3, he, _, _⟩ := hO.row.form (by simp)
        injection he with he1 he2 he3
        subst he1
        have hrow := hO.row.cell (i := 0) (by simp)
        have r0 : w2.cell? ⟨g, 0, none⟩ = some (ptr a) := hrow
        obtain ⟨_, hnb⟩ := (hO.row.nds (a, .leaf c s) (by simp) : NdAt w2 N a (.leaf c s))
        have n2 : w2.cell? ⟨a, 2, none⟩ = some (.int .i64 (s : Int)) := cellOf hnb 2
        have hrw : w2.ownsRow 0 3 1 (.slice (some ⟨q, 0, none⟩) l.length l.length) l.length ((zers l.length).map iz) := HS.out.get 0 rfl
        have hcl : w2.cell? ⟨q, s, none⟩ = some (iz 0) := ownsRow_at hrw (by unfold zers; rw [List.map_replicate, List.getElem?_replicate, if_pos hs])
        have hfr := ownsRow_free hrw s
        have hst := ownsRow_store (i := s) hrw (iz 1)
        rw [← List.map_set] at hst
        have S2 := HS.out.upd 0 (oSl 3 1 (.slice (some ⟨q, 0, none⟩) l.length l.length) l.length (((zers l.length).set s 1).map iz)) rfl ((Ext.refl _ w2).setCell ⟨q, s, none⟩ (iz 1) (.inl (by simp [oSl, Value.ownBlock]))) (Fr.refl _ _) hst
        have HF := Lib.hid S2
        have hsz : (s : Int) < (l.length : Int) := by omega
        clear S2 hst hrw hnb hrow hO hlv hRH he2 he3
        simp only [List.length_singleton] at *
        go_wp2_with fail
        go_ret
        exact ⟨_, rfl, HF.out.ext, HF.out.get 0 rfl, HF.out.base _ (List.mem_cons_self ..)⟩
      · have hlv1 : (leavesF l 0).length ≠ 1 := by rw [HLV.out, ← hRH]; simpa using h1
        have hdm := deepN_more hlv1
        have hinv := inv_start l
        have hsb := sumC_leaves l 0 (fun c hc => HB.out c hc)
        have htri := leavesF_tri l 0
        have hll := leavesF_len l 0
        rw [HLV.out, ← hRH] at hdm hinv hsb htri hll
        have hHS := HpS.init rfl htri
        simp only [List.length_map] at hdm hll
        rw [HD.out] at hdm
        have hT : sumC (H.map (·.2)) ≤ 1099511627776 * 1000 := by omega
        obtain ⟨T, hTT⟩ : ∃ T, sumC (H.map (·.2)) = T := ⟨_, rfl⟩
        rw [hTT] at hT hinv
        have hH9 : H.length ≤ 1000 := by omega
        have h1' : ((H.length : Int) == 1) = false := beq_eq_false_iff_ne.2 (by omega)
        have HINV := Lib.hid (⟨hinv, hHS⟩ : _ ∧ _)
        have HDM := Lib.hid hdm
        clear hdm
        clear hinv hsb htri hll hHS hlv1 hTT hO
        go_wp2_with fail
        have hO : HpO w2 lb (.slice ao2 H.length cap2) N H := HS.out.get 1 rfl
        refine (init_walk lb _ N H w2 hO (by omega)).mono ?_
        rintro e w3 ⟨rfl, hx3, hO3⟩
        have S := HS.out.upd 1 (oHp lb (.slice ao2 H.length cap2) N (initF pnLt H.length (H.length / 2) H)) rfl (hx3.mono (fun i _ hi => by simp [oHp] at hi ⊢; simp [hi])) (Fr.refl _ _) hO3
        have HS := Lib.hid S
        clear S hx3 hO3 hO c0 hmk
        obtain ⟨H0, hH0⟩ : ∃ H0, initF pnLt H.length (H.length / 2) H = H0 := ⟨_, rfl⟩
        obtain ⟨L0, hL0⟩ : ∃ L0, srtS (H.map (·.2)) = L0 := ⟨_, rfl⟩
        rw [hH0] at HS HINV
        rw [hL0] at HINV
        have hdm := HDM.out
        rw [hL0] at hdm
        obtain ⟨R2, hR2⟩ : ∃ R2, mrgF H.length 0 L0 = R2 := ⟨_, rfl⟩
        rw [hR2] at hdm
        have HDM := Lib.hid hdm
        clear hdm
        have hle0 : L0.length = H.length := by rw [← hL0]; have := (srtS_perm (H.map (·.2))).length_eq; simpa using this
        have HR2 := Lib.hid hR2
        have HLE := Lib.hid hle0
        clear hH0 hL0 hR2 hle0 hRH
        go_wp2_with fail
        go_loopg [7] H.length (fun gk gv wr => ∃ (g : Nat) (vv : Value) (N : List Nat) (K : List Pn) (L : List Nd), gv = .int .i64 g ∧ L.length ≤ gk ∧ g + gk ≤ 1000 ∧ mrgF gk g L = R2 ∧ HpS K L ∧ Inv l.length g T L ∧ Sep w wr [oSl 3 1 (.slice (some ⟨q, 0, none⟩) l.length l.length) l.length ((zers l.length).map iz), oHp lb vv N K])
        case atStart => exact ⟨0, _, N, H0, L0, rfl, by have := HLE.out; omega, by omega, HR2.out, HINV.out.2, HINV.out.1, HS.out⟩
        case round =>
          clear HS HR2 HINV HLE
          obtain ⟨g, vv, N, K, L, rfl, hLk, hgk, hR2, hHS, hinv, S⟩ := hrel
          have HS := Lib.hid S
          clear S
          have hO : HpO wr lb vv N K := HS.out.get 1 rfl
          have c0 : wr.cell? ⟨lb, 0, none⟩ = some vv := cellOf hO.var 0
          have hKL := hHS.len
          obtain ⟨ao3, cap3, rfl⟩ := hO.slice
          by_cases hlen : L.length ≤ 1
          · rw [mrgF_stop _ _ _ hlen] at hR2
            subst hR2
            have hk1 : (K.length : Int) ≤ 1 := by omega
            have HV := Lib.hid (⟨hHS, hinv, hO⟩ : _ ∧ _ ∧ _)
            have HK := Lib.hid hKL
            clear hHS hinv hO hKL
            go_wp2_with fail
            go_loopg [77] K.length (fun gk iv wr2 => ∃ (k : Nat) (M : List Int), gk + k = K.length ∧ iv = .int .i64 k ∧ M.length = l.length ∧ ((k = 0 ∧ M = zers l.length) ∨ (k = 1 ∧ ∃ x, L = [x] ∧ M = setD x 0 (zers l.length))) ∧ Sep w wr2 [oSl 3 1 (.slice (some ⟨q, 0, none⟩) l.length l.length) l.length (M.map iz), oHp lb (.slice ao3 K.length cap3) N K])
            case atStart => exact ⟨0, zers l.length, by omega, rfl, by simp [zers], .inl ⟨rfl, rfl⟩, HS.out⟩
            case round =>
              clear HS c0
              obtain ⟨k, M, hk, rfl, hMl, hM, S⟩ := hrel
              by_cases hkk : k < K.length
              · obtain ⟨rfl, rfl⟩ : k = 0 ∧ M = zers l.length := by
                  rcases hM with h | h
                  · exact h
                  · omega
                have hKl := HK.out
                have hK1 : K.length = 1 := by omega
                obtain ⟨⟨a, x⟩, rfl⟩ : ∃ p, K = [p] := List.length_eq_one_iff.1 hK1
                obtain ⟨y, rfl⟩ : ∃ y, L = [y] := List.length_eq_one_iff.1 (by omega)
                have hxy : x = y := by have := HV.out.1.perm; simpa using this
                subst hxy
                have hO : HpO wr lb (.slice ao3 1 cap3) N [(a, x)] := S.get 1 rfl
                obtain ⟨g3, cap4, he, _, _⟩ := hO.row.form (by simp)
                injection he with he1 he2 he3
                subst he1
                have r0 : wr.cell? ⟨g3, 0, none⟩ = some (ptr a) := HpR.cell (H := [(a, x)]) (i := 0) hO.row (by simp)
                have hrw : wr.ownsRow 0 3 1 (.slice (some ⟨q, 0, none⟩) l.length l.length) l.length ((zers l.length).map iz) := S.get 0 rfl
                have hsz := HV.out.2.1.sz x (by simp)
                have hqN : q ∉ N := fun hm => S.apart 0 1 _ _ rfl rfl (by decide) q (by simp [oSl, Value.ownBlock]) (by simp [oHp, hm])
                have hcall := deepen_walk x N a 0 q l.length (zers l.length) wr (hO.row.nds (a, x) (by simp)) hqN (by rw [zers_len]; exact hrw) (by rw [zers_len]; exact hsz.1) (by omega)
                rw [zers_len] at hcall
                have HCALL := Lib.hid hcall
                have HS := Lib.hid S
                clear hcall hrw hO S he2 he3 hKl hsz
                simp only [List.length_singleton] at *
                go_wp2_with fail
                refine HCALL.out.mono ?_
                clear HCALL r0
                rintro e w5 ⟨rfl, hx5, ho5⟩
                have S := HS.out.upd 0 (oSl 3 1 (.slice (some ⟨q, 0, none⟩) l.length l.length) l.length ((setD x 0 (zers l.length)).map iz)) rfl (hx5.mono (fun i _ hi => by simpa [oSl, Value.ownBlock] using hi)) (Fr.refl _ _) ho5
                have HS := Lib.hid S
                clear S hx5 ho5
                go_wp2_with fail
                go_roundg 0
                case measure => omega
                case rel => exact ⟨1, setD x 0 (zers l.length), by omega, rfl, by rw [setD_len, zers_len], .inr ⟨rfl, x, rfl, rfl⟩, HS.out⟩
              · have hKl := HK.out
                have hfin : topD l.length L = M := by
                  rcases hM with ⟨rfl, rfl⟩ | ⟨rfl, x, rfl, rfl⟩
                  · have : L = [] := List.eq_nil_of_length_eq_zero (by omega)
                    rw [this]
                    rfl
                  · rfl
                have HFIN := Lib.hid hfin
                have HS := Lib.hid S
                have hkI : (K.length : Int) ≤ (k : Int) := by omega
                clear hM hfin S
                go_wp2_with fail
                go_ret
                rw [HDM.out, HFIN.out]
                exact ⟨_, rfl, HS.out.ext, HS.out.get 0 rfl, HS.out.base _ (List.mem_cons_self ..)⟩
          · obtain ⟨a, L', rfl⟩ : ∃ a L', L = a :: L' := by
              cases L with
              | nil => simp at hlen
              | cons a L' => exact ⟨a, L', rfl⟩
            obtain ⟨b, L', rfl⟩ : ∃ b M, L' = b :: M := by
              cases L' with
              | nil => simp at hlen
              | cons b M => exact ⟨b, M, rfl⟩
            obtain ⟨g', rfl⟩ : ∃ g', gk = g' + 1 := ⟨gk - 1, by simp at hLk; omega⟩
            rw [mrgF] at hR2
            have hl2 : L'.length + 2 = K.length := by simp at hKL; omega
            obtain ⟨p1, hS1⟩ := hHS.pop
            obtain ⟨p2, hS2⟩ := hS1.pop
            have hk2 : (popL K).length = K.length - 1 := popL_len K
            have hk3 : (popL (popL K)).length = K.length - 2 := by rw [popL_len, popL_len]; omega
            have hm1 : at_ K 0 ∈ K := at_mem2 (by omega)
            have hm2 : at_ (popL K) 0 ∈ K := (popL_perm K (by omega)).mem_iff.2 (List.mem_cons_of_mem _ (at_mem2 (by omega)))
            have na := hO.row.nds _ hm1
            have nb := hO.row.nds _ hm2
            rw [p1] at na
            rw [p2] at nb
            obtain ⟨hpa, hpb, hpt⟩ := hinv.two
            have hstep := hinv.step
            have hpush := fun ad => hS2.push ad (.join (a.cnt + b.cnt) g a b) (tri_join (fun x hx => hinv.young x (by simp [hx])))
            have hPK := fun w1 (ho : HpO w1 lb (.slice ao3 K.length cap3) N K) => pop_walk lb _ N K w1 ho (by omega) (by omega)
            have hPK2 := fun v5 w1 (ho : HpO w1 lb v5 N (popL K)) => pop_walk lb v5 N (popL K) w1 ho (by omega) (by omega)
            obtain ⟨a1, ha1⟩ : ∃ a1, (at_ K 0).1 = a1 := ⟨_, rfl⟩
            obtain ⟨a2, ha2⟩ : ∃ a2, (at_ (popL K) 0).1 = a2 := ⟨_, rfl⟩
            obtain ⟨K2, hK2⟩ : ∃ K2, popL (popL K) = K2 := ⟨_, rfl⟩
            rw [ha1] at na hPK
            rw [ha2] at nb hPK2
            rw [hK2] at hPK2 hpush hS2 hk3
            have HV := Lib.hid (⟨hstep, hpush, hR2⟩ : _ ∧ _ ∧ _)
            have HN := Lib.hid (⟨na, nb⟩ : _ ∧ _)
            have HPK := Lib.hid hPK
            have HPK2 := Lib.hid hPK2
            have HO := Lib.hid hO
            have hLg : L'.length + 1 ≤ g' := by simp at hLk; omega
            have hk1 : (1 : Int) < (K.length : Int) := by omega
            have hta1 := assertNode a1
            have hta2 := assertNode a2
            have HKS := Lib.hid (⟨hl2, hk2, hk3⟩ : _ ∧ _ ∧ _)
            clear hstep hpush hR2 na nb hPK hPK2 hO hS1 hS2 hHS hinv p1 p2 hm1 hm2 ha1 ha2 hK2 hKL hLk hlen hl2 hk2 hk3
            go_wp2_with fail
            refine wp_region_perm (C := fun w' => ∃ x : ExS (lb :: (Value.slice ao3 K.length cap3).ownBlock.toList) wr, w' = x.w) [0, 3] 7 (by kernel_rfl) (by kernel_rfl) ⟨ExS.mk _ ((Ext.refl _ wr).drew), rfl⟩ ?_
            simp only [pick, List.getElem?_toArray, List.getElem?_cons_zero, List.getElem?_cons_succ, List.drop_succ_cons, List.drop_zero]
            repeat (go_big_quiet_step (fail))
            refine wpQuiet_nil ?_
            clear c0
            refine anyC_one (f := 4) (i := 1) (by kernel_rfl) (by decide) rfl rfl (fun Kc hK => ?_)
            go_wp2_with fail
            refine (HPK.out wr.drew (HO.out.quiet ((Ext.refl [] wr).drew))).mono ?_
            rintro e w5 ⟨v5, rfl, hv5, hx5, hO5⟩
            have hx5 : Ext (lb :: (Value.slice ao3 K.length cap3).ownBlock.toList) wr w5 := ((Ext.refl _ wr).drew).trans hx5
            refine hK _ _ ⟨ExS.mk w5 hx5, rfl⟩ ?_
            have H5 := Lib.hid (⟨hv5, hx5, hO5⟩ : _ ∧ _ ∧ _)
            clear hK Kc hv5 hx5 hO5 HPK
            refine anyC_two (f := 3) (i := 2) (j := 4) (by kernel_rfl) (by decide) (by decide) rfl rfl rfl rfl (fun Kc hK => ?_) (fun Kc hK => ?_)
            · go_wp2_with fail
              refine hK _ _ ⟨ExS.mk w5 H5.out.2.1, rfl⟩ ?_
              clear hK Kc
              refine anyC_one (f := 2) (i := 4) (by kernel_rfl) (by decide) rfl rfl (fun Kc hK => ?_)
              go_wp2_with fail
              refine (HPK2.out v5 w5 H5.out.2.2).mono ?_
              rintro e w6 ⟨v6, rfl, hv6, hx6, hO6⟩
              have hv6 : v6.ownBlock = (Value.slice ao3 K.length cap3).ownBlock := hv6.trans H5.out.1
              have hx6 : Ext (lb :: (Value.slice ao3 K.length cap3).ownBlock.toList) wr w6 := H5.out.2.1.trans (by have := H5.out.1; rw [this] at hx6; exact hx6)
              have H6 := Lib.hid (⟨hv6, hx6, hO6⟩ : _ ∧ _ ∧ _)
              refine hK _ _ ⟨ExS.mk w6 hx6, rfl⟩ ?_
              clear hK Kc hv6 hx6 hO6 HPK2
              refine anyC_two (f := 1) (i := 5) (j := 6) (by kernel_rfl) (by decide) (by decide) rfl rfl rfl rfl (fun Kc hK => ?_) (fun Kc hK => ?_)
              · go_wp2_with fail
                refine hK _ _ ⟨ExS.mk w6 H6.out.2.1, rfl⟩ ?_
                clear hK Kc
                refine anyC_one (f := 0) (i := 6) (by kernel_rfl) (by decide) rfl rfl (fun Kc hK => ?_)
                go_wp2_with fail
                refine hK _ _ ⟨ExS.mk w6 H6.out.2.1, rfl⟩ ?_
                clear hK Kc
                refine anyC_end (by kernel_rfl) ?_
                go_wp2_with fail
                refine NoPanic.normal ?_
                clear hta1 hta2
                have hNF : ∀ k ∈ N, k ∉ lb :: (Value.slice ao3 K.length cap3).ownBlock.toList := fun k hk h => by
                  rcases List.mem_cons.1 h with rfl | h
                  · exact HO.out.nN hk
                  · exact HO.out.row.far k (by simpa using h) hk
                have na6 := HN.out.1.ext H6.out.2.1 hNF
                have nb6 := HN.out.2.ext H6.out.2.1 hNF
                obtain ⟨pa, hpa6⟩ := na6.head
                obtain ⟨pb, hpb6⟩ := nb6.head
                have ca : ∀ z : Ex w6, z.w.cell? ⟨a1, 0, none⟩ = some (.int .i64 a.cnt) := fun z => cellOf (z.heap hpa6) 0
                have cb : ∀ z : Ex w6, z.w.cell? ⟨a2, 0, none⟩ = some (.int .i64 b.cnt) := fun z => cellOf (z.heap hpb6) 0
                have hwrap : IntKind.i64.wrap (a.cnt + b.cnt) = a.cnt + b.cnt := IntWalk.i64_in _ (by omega)
                have HN6 := Lib.hid (⟨na6, nb6⟩ : _ ∧ _)
                clear na6 nb6 hpa6 hpb6 hNF HN
                obtain ⟨xa, hxa⟩ : ∃ xa, a.cnt = xa := ⟨_, rfl⟩
                obtain ⟨xb, hxb⟩ : ∃ xb, b.cnt = xb := ⟨_, rfl⟩
                rw [hxa] at ca hwrap hpa hpt HV
                rw [hxb] at cb hwrap hpb hpt HV
                clear hxa hxb
                go_wp2_with fail
                refine wp_region_perm (C := fun w' => ∃ x : Ex w6, w' = x.w) [0, 1, 2, 3, 4, 5, 6, 7, 8, 9, 10, 11, 12] 17 (by kernel_rfl) (by kernel_rfl) ⟨Ex.mk _ ((Ext.refl [] w6).drew), rfl⟩ ?_
                simp only [pick, List.getElem?_toArray, List.getElem?_cons_zero, List.getElem?_cons_succ, List.drop_succ_cons, List.drop_zero]
                repeat (go_big_quiet_step (fail))
                refine wpQuiet_nil ?_
                clear ca cb hwrap
                refine anyC_one (f := 3) (i := 13) (by kernel_rfl) (by decide) rfl rfl (fun Kc hK => ?_)
                go_wp2_with fail
                refine hK _ _ ⟨Ex.mk _ (((Ext.refl [] w6).drew).alloc _), rfl⟩ ?_
                clear hK Kc
                refine anyC_one (f := 2) (i := 14) (by kernel_rfl) (by decide) rfl rfl (fun Kc hK => ?_)
                go_wp2_with fail
                refine hK _ _ ⟨Ex.mk _ (((Ext.refl [] w6).drew).alloc _), rfl⟩ ?_
                clear hK Kc
                refine anyC_one (f := 1) (i := 15) (by kernel_rfl) (by decide) rfl rfl (fun Kc hK => ?_)
                go_wp2_with fail
                refine hK _ _ ⟨Ex.mk _ ((((Ext.refl [] w6).drew).alloc _).alloc _), rfl⟩ ?_
                clear hK Kc
                refine anyC_one (f := 0) (i := 16) (by kernel_rfl) (by decide) rfl rfl (fun Kc hK => ?_)
                go_wp2_with fail
                refine hK _ _ ⟨Ex.mk _ ((((Ext.refl [] w6).drew).alloc _).alloc _), rfl⟩ ?_
                clear hK Kc
                refine anyC_end (by kernel_rfl) ?_
                go_wp2_with fail
                obtain ⟨rb, hrb⟩ : ∃ rb, w6.heap.size = rb := ⟨_, rfl⟩
                have hA := heap_alloc_at (w := w6.drew) (.cells #[ptr a1, ptr a2] 92)
                have hB := heap_alloc_at (w := w6.drew.alloc (.cells #[ptr a1, ptr a2] 92)) (ndO (.join (xa + xb) g a b) (.slice (some ⟨rb, 0, none⟩) 2 2))
                rw [show (w6.drew.alloc (.cells #[ptr a1, ptr a2] 92)).heap.size = rb + 1 from by rw [← hrb]; simp] at hB
                rw [show w6.drew.heap.size = rb from hrb] at hA
                rw [hrb]
                obtain ⟨W7, hW7⟩ : ∃ W7, (w6.drew.alloc (.cells #[ptr a1, ptr a2] 92)).alloc (ndO (.join (xa + xb) g a b) (.slice (some ⟨rb, 0, none⟩) 2 2)) = W7 := ⟨_, rfl⟩
                have hx7 : Ext [] w6 W7 := by rw [← hW7]; exact (((Ext.refl [] w6).drew).alloc _).alloc _
                have hA7 : W7.heap[rb]? = some (.cells #[ptr a1, ptr a2] 92 (0, 0)) := by rw [← hW7]; exact heap_alloc_old _ hA
                have hB7 : W7.heap[rb + 1]? = some (ndO (.join (xa + xb) g a b) (.slice (some ⟨rb, 0, none⟩) 2 2)) := by rw [← hW7]; exact hB
                have hsz7 := lt_of_block hB7
                have hlt6 := lt_of_block H6.out.2.2.var
                have hO7 := (H6.out.2.2.quiet hx7).wide (M := [rb + 1, rb]) (fun q hq => by
                  simp at hq
                  have hown := fun k hk => (H6.out.2.2.row.own.lt k hk).2
                  rcases hq with rfl | rfl
                  · exact ⟨hsz7, by omega, fun e => by have := hown _ e; omega⟩
                  · exact ⟨by omega, by omega, fun e => by have := hown _ e; omega⟩)
                have hn7 : NdAt W7 ([rb + 1, rb] ++ N) (rb + 1) (.join (xa + xb) g a b) :=
                  ⟨by simp, rb, a1, a2, by simp, hB7, hA7, (HN6.out.1.ext hx7 (by simp)).mono (fun k hk => List.mem_append_right _ hk), (HN6.out.2.ext hx7 (by simp)).mono (fun k hk => List.mem_append_right _ hk)⟩
                have hcall := push_walk lb v6 ([rb + 1, rb] ++ N) K2 (rb + 1) (.join (xa + xb) g a b) W7 hO7 hn7 (by have := HKS.out.2.2; have := HKS.out.1; omega)
                rw [← hW7] at hcall
                have HCALL := Lib.hid hcall
                have H7 := Lib.hid (⟨hx7, hsz7, hrb⟩ : _ ∧ _ ∧ _)
                clear hcall hA hB hA7 hB7 hO7 hn7 hx7 hlt6 hsz7
                refine HCALL.out.mono ?_
                clear HCALL HN6
                rintro e w8 ⟨v8, rfl, hv8, hx8, hO8⟩
                rw [hW7] at hv8 hx8
                clear hW7
                have H8 := Lib.hid (⟨hv8, hx8, hO8⟩ : _ ∧ _ ∧ _)
                clear hv8 hx8 hO8 hrb
                go_wp2_with fail
                refine NoPanic.normal ?_
                go_wp2_with fail
                go_roundg g'
                case measure => omega
                case rel =>
                  obtain ⟨hv6, hx6, hO6⟩ := H6.out
                  obtain ⟨hv8, hx8, hO8⟩ := H8.out
                  obtain ⟨hx7, hsz7, hrb⟩ := H7.out
                  rw [hv6] at hv8 hx8
                  have hxx : Ext (oHp lb (.slice ao3 K.length cap3) N K).F wr w8 := ((hx6.trans hx7.weak).trans hx8).mono (fun i _ hi => by
                    simp [oHp] at hi ⊢
                    rcases hi with h | h
                    · exact .inl h
                    · exact .inr (.inl h))
                  refine ⟨g + 1, v8, [rb + 1, rb] ++ N, pushL K2 (rb + 1, .join (xa + xb) g a b), _, by go_num, by rw [insS_len]; exact hLg, by omega, HV.out.2.2, HV.out.2.1 _, HV.out.1, ?_⟩
                  refine HS.out.upd 1 (oHp lb v8 _ _) rfl hxx (fun i hi => ?_) hO8
                  have hs6 := hx6.size
                  simp [oHp] at hi ⊢
                  rcases hi with h | h | h | h | h
                  · exact .inl (.inl h)
                  · rcases hv8 i h with h | h
                    · exact .inl (.inr (.inl h))
                    · exact .inr (by have := hx7.size; omega)
                  · exact .inr (by omega)
                  · exact .inr (by omega)
                  · exact .inl (.inr (.inr h))
              · go_wp2_with fail
                refine hK _ _ ⟨ExS.mk w6 H6.out.2.1, rfl⟩ ?_
                clear hK Kc
                refine anyC_one (f := 0) (i := 5) (by kernel_rfl) (by decide) rfl rfl (fun Kc hK => ?_)
                go_wp2_with fail
                refine hK _ _ ⟨ExS.mk w6 H6.out.2.1, rfl⟩ ?_
                clear hK Kc
                refine anyC_end (by kernel_rfl) ?_
                go_wp2_with fail
                refine NoPanic.normal ?_
                clear hta1 hta2
                have hNF : ∀ k ∈ N, k ∉ lb :: (Value.slice ao3 K.length cap3).ownBlock.toList := fun k hk h => by
                  rcases List.mem_cons.1 h with rfl | h
                  · exact HO.out.nN hk
                  · exact HO.out.row.far k (by simpa using h) hk
                have na6 := HN.out.1.ext H6.out.2.1 hNF
                have nb6 := HN.out.2.ext H6.out.2.1 hNF
                obtain ⟨pa, hpa6⟩ := na6.head
                obtain ⟨pb, hpb6⟩ := nb6.head
                have ca : ∀ z : Ex w6, z.w.cell? ⟨a1, 0, none⟩ = some (.int .i64 a.cnt) := fun z => cellOf (z.heap hpa6) 0
                have cb : ∀ z : Ex w6, z.w.cell? ⟨a2, 0, none⟩ = some (.int .i64 b.cnt) := fun z => cellOf (z.heap hpb6) 0
                have hwrap : IntKind.i64.wrap (a.cnt + b.cnt) = a.cnt + b.cnt := IntWalk.i64_in _ (by omega)
                have HN6 := Lib.hid (⟨na6, nb6⟩ : _ ∧ _)
                clear na6 nb6 hpa6 hpb6 hNF HN
                obtain ⟨xa, hxa⟩ : ∃ xa, a.cnt = xa := ⟨_, rfl⟩
                obtain ⟨xb, hxb⟩ : ∃ xb, b.cnt = xb := ⟨_, rfl⟩
                rw [hxa] at ca hwrap hpa hpt HV
                rw [hxb] at cb hwrap hpb hpt HV
                clear hxa hxb
                go_wp2_with fail
                refine wp_region_perm (C := fun w' => ∃ x : Ex w6, w' = x.w) [0, 1, 2, 3, 4, 5, 6, 7, 8, 9, 10, 11, 12] 17 (by kernel_rfl) (by kernel_rfl) ⟨Ex.mk _ ((Ext.refl [] w6).drew), rfl⟩ ?_
                simp only [pick, List.getElem?_toArray, List.getElem?_cons_zero, List.getElem?_cons_succ, List.drop_succ_cons, List.drop_zero]
                repeat (go_big_quiet_step (fail))
                refine wpQuiet_nil ?_
                clear ca cb hwrap
                refine anyC_one (f := 3) (i := 13) (by kernel_rfl) (by decide) rfl rfl (fun Kc hK => ?_)
                go_wp2_with fail
                refine hK _ _ ⟨Ex.mk _ (((Ext.refl [] w6).drew).alloc _), rfl⟩ ?_
                clear hK Kc
                refine anyC_one (f := 2) (i := 14) (by kernel_rfl) (by decide) rfl rfl (fun Kc hK => ?_)
                go_wp2_with fail
                refine hK _ _ ⟨Ex.mk _ (((Ext.refl [] w6).drew).alloc _), rfl⟩ ?_
                clear hK Kc
                refine anyC_one (f := 1) (i := 15) (by kernel_rfl) (by decide) rfl rfl (fun Kc hK => ?_)
                go_wp2_with fail
                refine hK _ _ ⟨Ex.mk _ ((((Ext.refl [] w6).drew).alloc _).alloc _), rfl⟩ ?_
                clear hK Kc
                refine anyC_one (f := 0) (i := 16) (by kernel_rfl) (by decide) rfl rfl (fun Kc hK => ?_)
                go_wp2_with fail
                refine hK _ _ ⟨Ex.mk _ ((((Ext.refl [] w6).drew).alloc _).alloc _), rfl⟩ ?_
                clear hK Kc
                refine anyC_end (by kernel_rfl) ?_
                go_wp2_with fail
                obtain ⟨rb, hrb⟩ : ∃ rb, w6.heap.size = rb := ⟨_, rfl⟩
                have hA := heap_alloc_at (w := w6.drew) (.cells #[ptr a1, ptr a2] 92)
                have hB := heap_alloc_at (w := w6.drew.alloc (.cells #[ptr a1, ptr a2] 92)) (ndO (.join (xa + xb) g a b) (.slice (some ⟨rb, 0, none⟩) 2 2))
                rw [show (w6.drew.alloc (.cells #[ptr a1, ptr a2] 92)).heap.size = rb + 1 from by rw [← hrb]; simp] at hB
                rw [show w6.drew.heap.size = rb from hrb] at hA
                rw [hrb]
                obtain ⟨W7, hW7⟩ : ∃ W7, (w6.drew.alloc (.cells #[ptr a1, ptr a2] 92)).alloc (ndO (.join (xa + xb) g a b) (.slice (some ⟨rb, 0, none⟩) 2 2)) = W7 := ⟨_, rfl⟩
                have hx7 : Ext [] w6 W7 := by rw [← hW7]; exact (((Ext.refl [] w6).drew).alloc _).alloc _
                have hA7 : W7.heap[rb]? = some (.cells #[ptr a1, ptr a2] 92 (0, 0)) := by rw [← hW7]; exact heap_alloc_old _ hA
                have hB7 : W7.heap[rb + 1]? = some (ndO (.join (xa + xb) g a b) (.slice (some ⟨rb, 0, none⟩) 2 2)) := by rw [← hW7]; exact hB
                have hsz7 := lt_of_block hB7
                have hlt6 := lt_of_block H6.out.2.2.var
                have hO7 := (H6.out.2.2.quiet hx7).wide (M := [rb + 1, rb]) (fun q hq => by
                  simp at hq
                  have hown := fun k hk => (H6.out.2.2.row.own.lt k hk).2
                  rcases hq with rfl | rfl
                  · exact ⟨hsz7, by omega, fun e => by have := hown _ e; omega⟩
                  · exact ⟨by omega, by omega, fun e => by have := hown _ e; omega⟩)
                have hn7 : NdAt W7 ([rb + 1, rb] ++ N) (rb + 1) (.join (xa + xb) g a b) :=
                  ⟨by simp, rb, a1, a2, by simp, hB7, hA7, (HN6.out.1.ext hx7 (by simp)).mono (fun k hk => List.mem_append_right _ hk), (HN6.out.2.ext hx7 (by simp)).mono (fun k hk => List.mem_append_right _ hk)⟩
                have hcall := push_walk lb v6 ([rb + 1, rb] ++ N) K2 (rb + 1) (.join (xa + xb) g a b) W7 hO7 hn7 (by have := HKS.out.2.2; have := HKS.out.1; omega)
                rw [← hW7] at hcall
                have HCALL := Lib.hid hcall
                have H7 := Lib.hid (⟨hx7, hsz7, hrb⟩ : _ ∧ _ ∧ _)
                clear hcall hA hB hA7 hB7 hO7 hn7 hx7 hlt6 hsz7
                refine HCALL.out.mono ?_
                clear HCALL HN6
                rintro e w8 ⟨v8, rfl, hv8, hx8, hO8⟩
                rw [hW7] at hv8 hx8
                clear hW7
                have H8 := Lib.hid (⟨hv8, hx8, hO8⟩ : _ ∧ _ ∧ _)
                clear hv8 hx8 hO8 hrb
                go_wp2_with fail
                refine NoPanic.normal ?_
                go_wp2_with fail
                go_roundg g'
                case measure => omega
                case rel =>
                  obtain ⟨hv6, hx6, hO6⟩ := H6.out
                  obtain ⟨hv8, hx8, hO8⟩ := H8.out
                  obtain ⟨hx7, hsz7, hrb⟩ := H7.out
                  rw [hv6] at hv8 hx8
                  have hxx : Ext (oHp lb (.slice ao3 K.length cap3) N K).F wr w8 := ((hx6.trans hx7.weak).trans hx8).mono (fun i _ hi => by
                    simp [oHp] at hi ⊢
                    rcases hi with h | h
                    · exact .inl h
                    · exact .inr (.inl h))
                  refine ⟨g + 1, v8, [rb + 1, rb] ++ N, pushL K2 (rb + 1, .join (xa + xb) g a b), _, by go_num, by rw [insS_len]; exact hLg, by omega, HV.out.2.2, HV.out.2.1 _, HV.out.1, ?_⟩
                  refine HS.out.upd 1 (oHp lb v8 _ _) rfl hxx (fun i hi => ?_) hO8
                  have hs6 := hx6.size
                  simp [oHp] at hi ⊢
                  rcases hi with h | h | h | h | h
                  · exact .inl (.inl h)
                  · rcases hv8 i h with h | h
                    · exact .inl (.inr (.inl h))
                    · exact .inr (by have := hx7.size; omega)
                  · exact .inr (by omega)
                  · exact .inr (by omega)
                  · exact .inl (.inr (.inr h))
            · go_wp2_with fail
              refine (HPK2.out v5 w5 H5.out.2.2).mono ?_
              rintro e w6 ⟨v6, rfl, hv6, hx6, hO6⟩
              have hv6 : v6.ownBlock = (Value.slice ao3 K.length cap3).ownBlock := hv6.trans H5.out.1
              have hx6 : Ext (lb :: (Value.slice ao3 K.length cap3).ownBlock.toList) wr w6 := H5.out.2.1.trans (by have := H5.out.1; rw [this] at hx6; exact hx6)
              have H6 := Lib.hid (⟨hv6, hx6, hO6⟩ : _ ∧ _ ∧ _)
              refine hK _ _ ⟨ExS.mk w6 hx6, rfl⟩ ?_
              clear hK Kc hv6 hx6 hO6 HPK2
              refine anyC_two (f := 2) (i := 2) (j := 5) (by kernel_rfl) (by decide) (by decide) rfl rfl rfl rfl (fun Kc hK => ?_) (fun Kc hK => ?_)
              · go_wp2_with fail
                refine hK _ _ ⟨ExS.mk w6 H6.out.2.1, rfl⟩ ?_
                clear hK Kc
                refine anyC_two (f := 1) (i := 5) (j := 6) (by kernel_rfl) (by decide) (by decide) rfl rfl rfl rfl (fun Kc hK => ?_) (fun Kc hK => ?_)
                · go_wp2_with fail
                  refine hK _ _ ⟨ExS.mk w6 H6.out.2.1, rfl⟩ ?_
                  clear hK Kc
                  refine anyC_one (f := 0) (i := 6) (by kernel_rfl) (by decide) rfl rfl (fun Kc hK => ?_)
                  go_wp2_with fail
                  refine hK _ _ ⟨ExS.mk w6 H6.out.2.1, rfl⟩ ?_
                  clear hK Kc
                  refine anyC_end (by kernel_rfl) ?_
                  go_wp2_with fail
                  refine NoPanic.normal ?_
                  clear hta1 hta2
                  have hNF : ∀ k ∈ N, k ∉ lb :: (Value.slice ao3 K.length cap3).ownBlock.toList := fun k hk h => by
                    rcases List.mem_cons.1 h with rfl | h
                    · exact HO.out.nN hk
                    · exact HO.out.row.far k (by simpa using h) hk
                  have na6 := HN.out.1.ext H6.out.2.1 hNF
                  have nb6 := HN.out.2.ext H6.out.2.1 hNF
                  obtain ⟨pa, hpa6⟩ := na6.head
                  obtain ⟨pb, hpb6⟩ := nb6.head
                  have ca : ∀ z : Ex w6, z.w.cell? ⟨a1, 0, none⟩ = some (.int .i64 a.cnt) := fun z => cellOf (z.heap hpa6) 0
                  have cb : ∀ z : Ex w6, z.w.cell? ⟨a2, 0, none⟩ = some (.int .i64 b.cnt) := fun z => cellOf (z.heap hpb6) 0
                  have hwrap : IntKind.i64.wrap (a.cnt + b.cnt) = a.cnt + b.cnt := IntWalk.i64_in _ (by omega)
                  have HN6 := Lib.hid (⟨na6, nb6⟩ : _ ∧ _)
                  clear na6 nb6 hpa6 hpb6 hNF HN
                  obtain ⟨xa, hxa⟩ : ∃ xa, a.cnt = xa := ⟨_, rfl⟩
                  obtain ⟨xb, hxb⟩ : ∃ xb, b.cnt = xb := ⟨_, rfl⟩
                  rw [hxa] at ca hwrap hpa hpt HV
                  rw [hxb] at cb hwrap hpb hpt HV
                  clear hxa hxb
                  go_wp2_with fail
                  refine wp_region_perm (C := fun w' => ∃ x : Ex w6, w' = x.w) [0, 1, 2, 3, 4, 5, 6, 7, 8, 9, 10, 11, 12] 17 (by kernel_rfl) (by kernel_rfl) ⟨Ex.mk _ ((Ext.refl [] w6).drew), rfl⟩ ?_
                  simp only [pick, List.getElem?_toArray, List.getElem?_cons_zero, List.getElem?_cons_succ, List.drop_succ_cons, List.drop_zero]
                  repeat (go_big_quiet_step (fail))
                  refine wpQuiet_nil ?_
                  clear ca cb hwrap
                  refine anyC_one (f := 3) (i := 13) (by kernel_rfl) (by decide) rfl rfl (fun Kc hK => ?_)
                  go_wp2_with fail
                  refine hK _ _ ⟨Ex.mk _ (((Ext.refl [] w6).drew).alloc _), rfl⟩ ?_
                  clear hK Kc
                  refine anyC_one (f := 2) (i := 14) (by kernel_rfl) (by decide) rfl rfl (fun Kc hK => ?_)
                  go_wp2_with fail
                  refine hK _ _ ⟨Ex.mk _ (((Ext.refl [] w6).drew).alloc _), rfl⟩ ?_
                  clear hK Kc
                  refine anyC_one (f := 1) (i := 15) (by kernel_rfl) (by decide) rfl rfl (fun Kc hK => ?_)
                  go_wp2_with fail
                  refine hK _ _ ⟨Ex.mk _ ((((Ext.refl [] w6).drew).alloc _).alloc _), rfl⟩ ?_
                  clear hK Kc
                  refine anyC_one (f := 0) (i := 16) (by kernel_rfl) (by decide) rfl rfl (fun Kc hK => ?_)
                  go_wp2_with fail
                  refine hK _ _ ⟨Ex.mk _ ((((Ext.refl [] w6).drew).alloc _).alloc _), rfl⟩ ?_
                  clear hK Kc
                  refine anyC_end (by kernel_rfl) ?_
                  go_wp2_with fail
                  obtain ⟨rb, hrb⟩ : ∃ rb, w6.heap.size = rb := ⟨_, rfl⟩
                  have hA := heap_alloc_at (w := w6.drew) (.cells #[ptr a1, ptr a2] 92)
                  have hB := heap_alloc_at (w := w6.drew.alloc (.cells #[ptr a1, ptr a2] 92)) (ndO (.join (xa + xb) g a b) (.slice (some ⟨rb, 0, none⟩) 2 2))
                  rw [show (w6.drew.alloc (.cells #[ptr a1, ptr a2] 92)).heap.size = rb + 1 from by rw [← hrb]; simp] at hB
                  rw [show w6.drew.heap.size = rb from hrb] at hA
                  rw [hrb]
                  obtain ⟨W7, hW7⟩ : ∃ W7, (w6.drew.alloc (.cells #[ptr a1, ptr a2] 92)).alloc (ndO (.join (xa + xb) g a b) (.slice (some ⟨rb, 0, none⟩) 2 2)) = W7 := ⟨_, rfl⟩
                  have hx7 : Ext [] w6 W7 := by rw [← hW7]; exact (((Ext.refl [] w6).drew).alloc _).alloc _
                  have hA7 : W7.heap[rb]? = some (.cells #[ptr a1, ptr a2] 92 (0, 0)) := by rw [← hW7]; exact heap_alloc_old _ hA
                  have hB7 : W7.heap[rb + 1]? = some (ndO (.join (xa + xb) g a b) (.slice (some ⟨rb, 0, none⟩) 2 2)) := by rw [← hW7]; exact hB
                  have hsz7 := lt_of_block hB7
                  have hlt6 := lt_of_block H6.out.2.2.var
                  have hO7 := (H6.out.2.2.quiet hx7).wide (M := [rb + 1, rb]) (fun q hq => by
                    simp at hq
                    have hown := fun k hk => (H6.out.2.2.row.own.lt k hk).2
                    rcases hq with rfl | rfl
                    · exact ⟨hsz7, by omega, fun e => by have := hown _ e; omega⟩
                    · exact ⟨by omega, by omega, fun e => by have := hown _ e; omega⟩)
                  have hn7 : NdAt W7 ([rb + 1, rb] ++ N) (rb + 1) (.join (xa + xb) g a b) :=
                    ⟨by simp, rb, a1, a2, by simp, hB7, hA7, (HN6.out.1.ext hx7 (by simp)).mono (fun k hk => List.mem_append_right _ hk), (HN6.out.2.ext hx7 (by simp)).mono (fun k hk => List.mem_append_right _ hk)⟩
                  have hcall := push_walk lb v6 ([rb + 1, rb] ++ N) K2 (rb + 1) (.join (xa + xb) g a b) W7 hO7 hn7 (by have := HKS.out.2.2; have := HKS.out.1; omega)
                  rw [← hW7] at hcall
                  have HCALL := Lib.hid hcall
                  have H7 := Lib.hid (⟨hx7, hsz7, hrb⟩ : _ ∧ _ ∧ _)
                  clear hcall hA hB hA7 hB7 hO7 hn7 hx7 hlt6 hsz7
                  refine HCALL.out.mono ?_
                  clear HCALL HN6
                  rintro e w8 ⟨v8, rfl, hv8, hx8, hO8⟩
                  rw [hW7] at hv8 hx8
                  clear hW7
                  have H8 := Lib.hid (⟨hv8, hx8, hO8⟩ : _ ∧ _ ∧ _)
                  clear hv8 hx8 hO8 hrb
                  go_wp2_with fail
                  refine NoPanic.normal ?_
                  go_wp2_with fail
                  go_roundg g'
                  case measure => omega
                  case rel =>
                    obtain ⟨hv6, hx6, hO6⟩ := H6.out
                    obtain ⟨hv8, hx8, hO8⟩ := H8.out
                    obtain ⟨hx7, hsz7, hrb⟩ := H7.out
                    rw [hv6] at hv8 hx8
                    have hxx : Ext (oHp lb (.slice ao3 K.length cap3) N K).F wr w8 := ((hx6.trans hx7.weak).trans hx8).mono (fun i _ hi => by
                      simp [oHp] at hi ⊢
                      rcases hi with h | h
                      · exact .inl h
                      · exact .inr (.inl h))
                    refine ⟨g + 1, v8, [rb + 1, rb] ++ N, pushL K2 (rb + 1, .join (xa + xb) g a b), _, by go_num, by rw [insS_len]; exact hLg, by omega, HV.out.2.2, HV.out.2.1 _, HV.out.1, ?_⟩
                    refine HS.out.upd 1 (oHp lb v8 _ _) rfl hxx (fun i hi => ?_) hO8
                    have hs6 := hx6.size
                    simp [oHp] at hi ⊢
                    rcases hi with h | h | h | h | h
                    · exact .inl (.inl h)
                    · rcases hv8 i h with h | h
                      · exact .inl (.inr (.inl h))
                      · exact .inr (by have := hx7.size; omega)
                    · exact .inr (by omega)
                    · exact .inr (by omega)
                    · exact .inl (.inr (.inr h))
                · go_wp2_with fail
                  refine hK _ _ ⟨ExS.mk w6 H6.out.2.1, rfl⟩ ?_
                  clear hK Kc
                  refine anyC_one (f := 0) (i := 5) (by kernel_rfl) (by decide) rfl rfl (fun Kc hK => ?_)
                  go_wp2_with fail
                  refine hK _ _ ⟨ExS.mk w6 H6.out.2.1, rfl⟩ ?_
                  clear hK Kc
                  refine anyC_end (by kernel_rfl) ?_
                  go_wp2_with fail
                  refine NoPanic.normal ?_
                  clear hta1 hta2
                  have hNF : ∀ k ∈ N, k ∉ lb :: (Value.slice ao3 K.length cap3).ownBlock.toList := fun k hk h => by
                    rcases List.mem_cons.1 h with rfl | h
                    · exact HO.out.nN hk
                    · exact HO.out.row.far k (by simpa using h) hk
                  have na6 := HN.out.1.ext H6.out.2.1 hNF
                  have nb6 := HN.out.2.ext H6.out.2.1 hNF
                  obtain ⟨pa, hpa6⟩ := na6.head
                  obtain ⟨pb, hpb6⟩ := nb6.head
                  have ca : ∀ z : Ex w6, z.w.cell? ⟨a1, 0, none⟩ = some (.int .i64 a.cnt) := fun z => cellOf (z.heap hpa6) 0
                  have cb : ∀ z : Ex w6, z.w.cell? ⟨a2, 0, none⟩ = some (.int .i64 b.cnt) := fun z => cellOf (z.heap hpb6) 0
                  have hwrap : IntKind.i64.wrap (a.cnt + b.cnt) = a.cnt + b.cnt := IntWalk.i64_in _ (by omega)
                  have HN6 := Lib.hid (⟨na6, nb6⟩ : _ ∧ _)
                  clear na6 nb6 hpa6 hpb6 hNF HN
                  obtain ⟨xa, hxa⟩ : ∃ xa, a.cnt = xa := ⟨_, rfl⟩
                  obtain ⟨xb, hxb⟩ : ∃ xb, b.cnt = xb := ⟨_, rfl⟩
                  rw [hxa] at ca hwrap hpa hpt HV
                  rw [hxb] at cb hwrap hpb hpt HV
                  clear hxa hxb
                  go_wp2_with fail
                  refine wp_region_perm (C := fun w' => ∃ x : Ex w6, w' = x.w) [0, 1, 2, 3, 4, 5, 6, 7, 8, 9, 10, 11, 12] 17 (by kernel_rfl) (by kernel_rfl) ⟨Ex.mk _ ((Ext.refl [] w6).drew), rfl⟩ ?_
                  simp only [pick, List.getElem?_toArray, List.getElem?_cons_zero, List.getElem?_cons_succ, List.drop_succ_cons, List.drop_zero]
                  repeat (go_big_quiet_step (fail))
                  refine wpQuiet_nil ?_
                  clear ca cb hwrap
                  refine anyC_one (f := 3) (i := 13) (by kernel_rfl) (by decide) rfl rfl (fun Kc hK => ?_)
                  go_wp2_with fail
                  refine hK _ _ ⟨Ex.mk _ (((Ext.refl [] w6).drew).alloc _), rfl⟩ ?_
                  clear hK Kc
                  refine anyC_one (f := 2) (i := 14) (by kernel_rfl) (by decide) rfl rfl (fun Kc hK => ?_)
                  go_wp2_with fail
                  refine hK _ _ ⟨Ex.mk _ (((Ext.refl [] w6).drew).alloc _), rfl⟩ ?_
                  clear hK Kc
                  refine anyC_one (f := 1) (i := 15) (by kernel_rfl) (by decide) rfl rfl (fun Kc hK => ?_)
                  go_wp2_with fail
                  refine hK _ _ ⟨Ex.mk _ ((((Ext.refl [] w6).drew).alloc _).alloc _), rfl⟩ ?_
                  clear hK Kc
                  refine anyC_one (f := 0) (i := 16) (by kernel_rfl) (by decide) rfl rfl (fun Kc hK => ?_)
                  go_wp2_with fail
                  refine hK _ _ ⟨Ex.mk _ ((((Ext.refl [] w6).drew).alloc _).alloc _), rfl⟩ ?_
                  clear hK Kc
                  refine anyC_end (by kernel_rfl) ?_
                  go_wp2_with fail
                  obtain ⟨rb, hrb⟩ : ∃ rb, w6.heap.size = rb := ⟨_, rfl⟩
                  have hA := heap_alloc_at (w := w6.drew) (.cells #[ptr a1, ptr a2] 92)
                  have hB := heap_alloc_at (w := w6.drew.alloc (.cells #[ptr a1, ptr a2] 92)) (ndO (.join (xa + xb) g a b) (.slice (some ⟨rb, 0, none⟩) 2 2))
                  rw [show (w6.drew.alloc (.cells #[ptr a1, ptr a2] 92)).heap.size = rb + 1 from by rw [← hrb]; simp] at hB
                  rw [show w6.drew.heap.size = rb from hrb] at hA
                  rw [hrb]
                  obtain ⟨W7, hW7⟩ : ∃ W7, (w6.drew.alloc (.cells #[ptr a1, ptr a2] 92)).alloc (ndO (.join (xa + xb) g a b) (.slice (some ⟨rb, 0, none⟩) 2 2)) = W7 := ⟨_, rfl⟩
                  have hx7 : Ext [] w6 W7 := by rw [← hW7]; exact (((Ext.refl [] w6).drew).alloc _).alloc _
                  have hA7 : W7.heap[rb]? = some (.cells #[ptr a1, ptr a2] 92 (0, 0)) := by rw [← hW7]; exact heap_alloc_old _ hA
                  have hB7 : W7.heap[rb + 1]? = some (ndO (.join (xa + xb) g a b) (.slice (some ⟨rb, 0, none⟩) 2 2)) := by rw [← hW7]; exact hB
                  have hsz7 := lt_of_block hB7
                  have hlt6 := lt_of_block H6.out.2.2.var
                  have hO7 := (H6.out.2.2.quiet hx7).wide (M := [rb + 1, rb]) (fun q hq => by
                    simp at hq
                    have hown := fun k hk => (H6.out.2.2.row.own.lt k hk).2
                    rcases hq with rfl | rfl
                    · exact ⟨hsz7, by omega, fun e => by have := hown _ e; omega⟩
                    · exact ⟨by omega, by omega, fun e => by have := hown _ e; omega⟩)
                  have hn7 : NdAt W7 ([rb + 1, rb] ++ N) (rb + 1) (.join (xa + xb) g a b) :=
                    ⟨by simp, rb, a1, a2, by simp, hB7, hA7, (HN6.out.1.ext hx7 (by simp)).mono (fun k hk => List.mem_append_right _ hk), (HN6.out.2.ext hx7 (by simp)).mono (fun k hk => List.mem_append_right _ hk)⟩
                  have hcall := push_walk lb v6 ([rb + 1, rb] ++ N) K2 (rb + 1) (.join (xa + xb) g a b) W7 hO7 hn7 (by have := HKS.out.2.2; have := HKS.out.1; omega)
                  rw [← hW7] at hcall
                  have HCALL := Lib.hid hcall
                  have H7 := Lib.hid (⟨hx7, hsz7, hrb⟩ : _ ∧ _ ∧ _)
                  clear hcall hA hB hA7 hB7 hO7 hn7 hx7 hlt6 hsz7
                  refine HCALL.out.mono ?_
                  clear HCALL HN6
                  rintro e w8 ⟨v8, rfl, hv8, hx8, hO8⟩
                  rw [hW7] at hv8 hx8
                  clear hW7
                  have H8 := Lib.hid (⟨hv8, hx8, hO8⟩ : _ ∧ _ ∧ _)
                  clear hv8 hx8 hO8 hrb
                  go_wp2_with fail
                  refine NoPanic.normal ?_
                  go_wp2_with fail
                  go_roundg g'
                  case measure => omega
                  case rel =>
                    obtain ⟨hv6, hx6, hO6⟩ := H6.out
                    obtain ⟨hv8, hx8, hO8⟩ := H8.out
                    obtain ⟨hx7, hsz7, hrb⟩ := H7.out
                    rw [hv6] at hv8 hx8
                    have hxx : Ext (oHp lb (.slice ao3 K.length cap3) N K).F wr w8 := ((hx6.trans hx7.weak).trans hx8).mono (fun i _ hi => by
                      simp [oHp] at hi ⊢
                      rcases hi with h | h
                      · exact .inl h
                      · exact .inr (.inl h))
                    refine ⟨g + 1, v8, [rb + 1, rb] ++ N, pushL K2 (rb + 1, .join (xa + xb) g a b), _, by go_num, by rw [insS_len]; exact hLg, by omega, HV.out.2.2, HV.out.2.1 _, HV.out.1, ?_⟩
                    refine HS.out.upd 1 (oHp lb v8 _ _) rfl hxx (fun i hi => ?_) hO8
                    have hs6 := hx6.size
                    simp [oHp] at hi ⊢
                    rcases hi with h | h | h | h | h
                    · exact .inl (.inl h)
                    · rcases hv8 i h with h | h
                      · exact .inl (.inr (.inl h))
                      · exact .inr (by have := hx7.size; omega)
                    · exact .inr (by omega)
                    · exact .inr (by omega)
                    · exact .inl (.inr (.inr h))
              · go_wp2_with fail
                refine hK _ _ ⟨ExS.mk w6 H6.out.2.1, rfl⟩ ?_
                clear hK Kc
                refine anyC_one (f := 1) (i := 2) (by kernel_rfl) (by decide) rfl rfl (fun Kc hK => ?_)
                go_wp2_with fail
                refine hK _ _ ⟨ExS.mk w6 H6.out.2.1, rfl⟩ ?_
                clear hK Kc
                refine anyC_one (f := 0) (i := 6) (by kernel_rfl) (by decide) rfl rfl (fun Kc hK => ?_)
                go_wp2_with fail
                refine hK _ _ ⟨ExS.mk w6 H6.out.2.1, rfl⟩ ?_
                clear hK Kc
                refine anyC_end (by kernel_rfl) ?_
                go_wp2_with fail
                refine NoPanic.normal ?_
                clear hta1 hta2
                have hNF : ∀ k ∈ N, k ∉ lb :: (Value.slice ao3 K.length cap3).ownBlock.toList := fun k hk h => by
                  rcases List.mem_cons.1 h with rfl | h
                  · exact HO.out.nN hk
                  · exact HO.out.row.far k (by simpa using h) hk
                have na6 := HN.out.1.ext H6.out.2.1 hNF
                have nb6 := HN.out.2.ext H6.out.2.1 hNF
                obtain ⟨pa, hpa6⟩ := na6.head
                obtain ⟨pb, hpb6⟩ := nb6.head
                have ca : ∀ z : Ex w6, z.w.cell? ⟨a1, 0, none⟩ = some (.int .i64 a.cnt) := fun z => cellOf (z.heap hpa6) 0
                have cb : ∀ z : Ex w6, z.w.cell? ⟨a2, 0, none⟩ = some (.int .i64 b.cnt) := fun z => cellOf (z.heap hpb6) 0
                have hwrap : IntKind.i64.wrap (a.cnt + b.cnt) = a.cnt + b.cnt := IntWalk.i64_in _ (by omega)
                have HN6 := Lib.hid (⟨na6, nb6⟩ : _ ∧ _)
                clear na6 nb6 hpa6 hpb6 hNF HN
                obtain ⟨xa, hxa⟩ : ∃ xa, a.cnt = xa := ⟨_, rfl⟩
                obtain ⟨xb, hxb⟩ : ∃ xb, b.cnt = xb := ⟨_, rfl⟩
                rw [hxa] at ca hwrap hpa hpt HV
                rw [hxb] at cb hwrap hpb hpt HV
                clear hxa hxb
                go_wp2_with fail
                refine wp_region_perm (C := fun w' => ∃ x : Ex w6, w' = x.w) [0, 1, 2, 3, 4, 5, 6, 7, 8, 9, 10, 11, 12] 17 (by kernel_rfl) (by kernel_rfl) ⟨Ex.mk _ ((Ext.refl [] w6).drew), rfl⟩ ?_
                simp only [pick, List.getElem?_toArray, List.getElem?_cons_zero, List.getElem?_cons_succ, List.drop_succ_cons, List.drop_zero]
                repeat (go_big_quiet_step (fail))
                refine wpQuiet_nil ?_
                clear ca cb hwrap
                refine anyC_one (f := 3) (i := 13) (by kernel_rfl) (by decide) rfl rfl (fun Kc hK => ?_)
                go_wp2_with fail
                refine hK _ _ ⟨Ex.mk _ (((Ext.refl [] w6).drew).alloc _), rfl⟩ ?_
                clear hK Kc
                refine anyC_one (f := 2) (i := 14) (by kernel_rfl) (by decide) rfl rfl (fun Kc hK => ?_)
                go_wp2_with fail
                refine hK _ _ ⟨Ex.mk _ (((Ext.refl [] w6).drew).alloc _), rfl⟩ ?_
                clear hK Kc
                refine anyC_one (f := 1) (i := 15) (by kernel_rfl) (by decide) rfl rfl (fun Kc hK => ?_)
                go_wp2_with fail
                refine hK _ _ ⟨Ex.mk _ ((((Ext.refl [] w6).drew).alloc _).alloc _), rfl⟩ ?_
                clear hK Kc
                refine anyC_one (f := 0) (i := 16) (by kernel_rfl) (by decide) rfl rfl (fun Kc hK => ?_)
                go_wp2_with fail
                refine hK _ _ ⟨Ex.mk _ ((((Ext.refl [] w6).drew).alloc _).alloc _), rfl⟩ ?_
                clear hK Kc
                refine anyC_end (by kernel_rfl) ?_
                go_wp2_with fail
                obtain ⟨rb, hrb⟩ : ∃ rb, w6.heap.size = rb := ⟨_, rfl⟩
                have hA := heap_alloc_at (w := w6.drew) (.cells #[ptr a1, ptr a2] 92)
                have hB := heap_alloc_at (w := w6.drew.alloc (.cells #[ptr a1, ptr a2] 92)) (ndO (.join (xa + xb) g a b) (.slice (some ⟨rb, 0, none⟩) 2 2))
                rw [show (w6.drew.alloc (.cells #[ptr a1, ptr a2] 92)).heap.size = rb + 1 from by rw [← hrb]; simp] at hB
                rw [show w6.drew.heap.size = rb from hrb] at hA
                rw [hrb]
                obtain ⟨W7, hW7⟩ : ∃ W7, (w6.drew.alloc (.cells #[ptr a1, ptr a2] 92)).alloc (ndO (.join (xa + xb) g a b) (.slice (some ⟨rb, 0, none⟩) 2 2)) = W7 := ⟨_, rfl⟩
                have hx7 : Ext [] w6 W7 := by rw [← hW7]; exact (((Ext.refl [] w6).drew).alloc _).alloc _
                have hA7 : W7.heap[rb]? = some (.cells #[ptr a1, ptr a2] 92 (0, 0)) := by rw [← hW7]; exact heap_alloc_old _ hA
                have hB7 : W7.heap[rb + 1]? = some (ndO (.join (xa + xb) g a b) (.slice (some ⟨rb, 0, none⟩) 2 2)) := by rw [← hW7]; exact hB
                have hsz7 := lt_of_block hB7
                have hlt6 := lt_of_block H6.out.2.2.var
                have hO7 := (H6.out.2.2.quiet hx7).wide (M := [rb + 1, rb]) (fun q hq => by
                  simp at hq
                  have hown := fun k hk => (H6.out.2.2.row.own.lt k hk).2
                  rcases hq with rfl | rfl
                  · exact ⟨hsz7, by omega, fun e => by have := hown _ e; omega⟩
                  · exact ⟨by omega, by omega, fun e => by have := hown _ e; omega⟩)
                have hn7 : NdAt W7 ([rb + 1, rb] ++ N) (rb + 1) (.join (xa + xb) g a b) :=
                  ⟨by simp, rb, a1, a2, by simp, hB7, hA7, (HN6.out.1.ext hx7 (by simp)).mono (fun k hk => List.mem_append_right _ hk), (HN6.out.2.ext hx7 (by simp)).mono (fun k hk => List.mem_append_right _ hk)⟩
                have hcall := push_walk lb v6 ([rb + 1, rb] ++ N) K2 (rb + 1) (.join (xa + xb) g a b) W7 hO7 hn7 (by have := HKS.out.2.2; have := HKS.out.1; omega)
                rw [← hW7] at hcall
                have HCALL := Lib.hid hcall
                have H7 := Lib.hid (⟨hx7, hsz7, hrb⟩ : _ ∧ _ ∧ _)
                clear hcall hA hB hA7 hB7 hO7 hn7 hx7 hlt6 hsz7
                refine HCALL.out.mono ?_
                clear HCALL HN6
                rintro e w8 ⟨v8, rfl, hv8, hx8, hO8⟩
                rw [hW7] at hv8 hx8
                clear hW7
                have H8 := Lib.hid (⟨hv8, hx8, hO8⟩ : _ ∧ _ ∧ _)
                clear hv8 hx8 hO8 hrb
                go_wp2_with fail
                refine NoPanic.normal ?_
                go_wp2_with fail
                go_roundg g'
                case measure => omega
                case rel =>
                  obtain ⟨hv6, hx6, hO6⟩ := H6.out
                  obtain ⟨hv8, hx8, hO8⟩ := H8.out
                  obtain ⟨hx7, hsz7, hrb⟩ := H7.out
                  rw [hv6] at hv8 hx8
                  have hxx : Ext (oHp lb (.slice ao3 K.length cap3) N K).F wr w8 := ((hx6.trans hx7.weak).trans hx8).mono (fun i _ hi => by
                    simp [oHp] at hi ⊢
                    rcases hi with h | h
                    · exact .inl h
                    · exact .inr (.inl h))
                  refine ⟨g + 1, v8, [rb + 1, rb] ++ N, pushL K2 (rb + 1, .join (xa + xb) g a b), _, by go_num, by rw [insS_len]; exact hLg, by omega, HV.out.2.2, HV.out.2.1 _, HV.out.1, ?_⟩
                  refine HS.out.upd 1 (oHp lb v8 _ _) rfl hxx (fun i hi => ?_) hO8
                  have hs6 := hx6.size
                  simp [oHp] at hi ⊢
                  rcases hi with h | h | h | h | h
                  · exact .inl (.inl h)
                  · rcases hv8 i h with h | h
                    · exact .inl (.inr (.inl h))
                    · exact .inr (by have := hx7.size; omega)
                  · exact .inr (by omega)
                  · exact .inr (by omega)
                  · exact .inl (.inr (.inr h))
end Go.Proofs.Ytchhgbhbldfofaa.Hu
