/-
  deflate: Dynamic walked.
-/
import Derived.Test.YtnapnaaejignaaaGreatDgH
import Derived.Test.YtnapnaaejignaaaGreatDgR
namespace Go.Proofs.YtnapnaaejignaaaGreat.De
open Go.RowKit Bt Hu If Mt
attribute [local go_sem] Oper.semAt_some

set_option maxRecDepth 100000 in
set_option maxHeartbeats 4000000 in
theorem rowD_walk (ao : Option Addr) (n cap : Nat) (w : World) :
    Calls Tryz.prog 38 #[.slice ao n cap] w fun e w' => e = .returned (.func (.func 60) #[] #[pO w.heap.size]) ∧ w' = w.alloc (bxI (.slice ao n cap)) := by
  go_enter Tryz.func38, Tryz.ntmps38
  go_wp2_with fail
  go_ret
  exact ⟨rfl, rfl⟩
/-- objects out of a list, in another order -/
theorem _root_.Go.Proofs.YtnapnaaejignaaaGreat.Sep.pick {w0 w : World} {L M : List Ob} (S : Sep w0 w L) (is : List Nat) (hn : is.Nodup) (hM : is.map (fun i => L[i]?) = M.map some) : Sep w0 w M := by
  have hl : is.length = M.length := by have := congrArg List.length hM; simpa using this
  have at_ : ∀ (i : Nat) (o : Ob), M[i]? = some o → ∃ j, is[i]? = some j ∧ L[j]? = some o := fun i o hi => by
    have hlt := (List.getElem?_eq_some_iff.1 hi).1
    refine ⟨is[i], List.getElem?_eq_getElem (by omega), ?_⟩
    have h := congrArg (fun l => l[i]?) hM
    simp only [List.getElem?_map, hi, Option.map_some] at h
    rw [List.getElem?_eq_getElem (show i < is.length by omega), Option.map_some] at h
    exact Option.some.inj h
  refine ⟨S.ext, fun o ho => ?_, fun o ho => ?_, fun i j x y hi hj hij => ?_⟩
  · obtain ⟨i, hi⟩ := List.getElem?_of_mem ho
    obtain ⟨j, _, h⟩ := at_ i o hi
    exact S.each o (List.mem_of_getElem? h)
  · obtain ⟨i, hi⟩ := List.getElem?_of_mem ho
    obtain ⟨j, _, h⟩ := at_ i o hi
    exact S.base o (List.mem_of_getElem? h)
  · obtain ⟨i2, h1, h2⟩ := at_ i x hi
    obtain ⟨j2, h3, h4⟩ := at_ j y hj
    refine S.apart i2 j2 x y h2 h4 fun e => hij ?_
    subst e
    obtain ⟨p1, q1⟩ := List.getElem?_eq_some_iff.1 h1
    obtain ⟨p2, q2⟩ := List.getElem?_eq_some_iff.1 h3
    rcases Nat.lt_trichotomy i j with h | h | h
    · exact absurd (q1.trans q2.symm) (List.pairwise_iff_getElem.1 hn i j p1 p2 h)
    · exact h
    · exact absurd (q2.trans q1.symm) (List.pairwise_iff_getElem.1 hn j i p2 p1 h)
theorem ints_pre {w : World} {g cap k : Nat} {l : List Int} (h : (oIs g cap l).P w) (hk : k ≤ l.length) : IntsArg w (.slice (some ⟨g, 0, none⟩) k cap) (l.take k) := by
  have hl : (l.take k).length = k := by rw [List.length_take]; omega
  obtain ⟨h1, ao, c, he, hc, hm, hz⟩ := ints_of h
  injection he with _ _ e3
  subst e3
  refine ⟨⟨_, cap, by rw [hl], fun _ => ⟨g, 0, rfl, fun j x hj => ?_⟩⟩, _, cap, by rw [hl], by omega, hm, fun h => by cases h⟩
  rw [Nat.zero_add]
  rw [List.getElem?_take] at hj
  split at hj
  · have hr := row_at h (k := j) (by have := (List.getElem?_eq_some_iff.1 hj).1; omega)
    rw [List.getD_eq_getElem?_getD, hj] at hr
    exact hr
  · cases hj
theorem codes_ok {D : List Int} (h : badL D = false ∧ kra D ≤ 32768) : codesE D = 0 := by
  unfold codesE
  rw [h.1, if_neg (by simp), if_neg (by omega)]
theorem fqT_snoc (pre : List Td) (x : Td) : fqT (pre ++ [x]) = inc (fqT pre) x.1.toNat := by
  unfold fqT
  rw [List.foldl_append]
  rfl
structure DynF (s : ByteArray) : Prop where
  tab1 : TabOk (dA s) (dT1 s) 257
  tab2 : TabOk (cntB (allN s)) (dT2 s) 1
  row : RowOk s
  told : ToldOk s
  err1 : lensErr (dA s) 15 = false
  err2 : lensErr (cntB (allN s)) 15 = false
theorem dynF (s : ByteArray) (hs : s.size ≤ 1000000) : DynF s := by
  have A := asked s
  have h1 := some_le (dA s)
  have h2 := some_le (cntB (allN s))
  have l1 := A.l1
  have l2 := A.l2
  exact ⟨De.tab1 s hs, De.tab2 s hs, row_ok s hs, told_ok s hs,
    err_none (A.r1.mono (by omega)) (by omega) (by decide) (by decide) (by rw [show (2 : Nat) ^ (15 : Int).toNat = 32768 from rfl]; omega),
    err_none (A.r2.mono (by omega)) (by omega) (by decide) (by decide) (by rw [show (2 : Nat) ^ (15 : Int).toNat = 32768 from rfl]; omega)⟩
set_option maxRecDepth 100000 in
set_option maxHeartbeats 16000000 in
theorem dynD_walk (s : ByteArray) (w : World) (hs : s.size ≤ 1000000) :
    Calls Tryz.prog 23 #[.string s] w fun e w' => e = .returned (.string (dynN s)) ∧ Ext [] w w' := by
  have HA := Lib.hid (asked s)
  have HT := Lib.hid (dynF s hs)
  obtain ⟨RS, hRS⟩ : ∃ RS, dynN s = RS := ⟨_, rfl⟩
  rw [hRS]
  have HRS := Lib.hid hRS
  clear hRS
  refine (callsIn_wide (n := 0)).1 (callsIn_of_wp_marks Tryz.func23 rfl trivial ((wpIn_wide (n := 0)).2 ?_))
  simp only [Tryz.ntmps23, List.size_toArray, List.length_cons, List.length_nil, Nat.reduceAdd, Nat.reduceSub, Array.replicate_succ, Array.replicate_zero, List.push_toArray, List.append_toArray, List.nil_append, List.cons_append]
  go_wp2_with fail
  refine (All_walk s w (by omega)).mono ?_
  rintro e w1 ⟨v0, rfl, hx, hP, hF⟩
  have S := (Sep.start w).new hx (oSl 94 3 v0 (allN s).length (pcC (allN s))) hP hF
  have hpc := PcAt.of_own hP
  have HPC := Lib.hid hpc
  have HS := Lib.hid S
  clear S hx hP hF hpc
  have hal := allN_len s
  go_wp2_with fail
  refine (counts_walk v0 (allN s) w1 HPC.out (by omega) (allN_chk s)).mono ?_
  rintro e w2 ⟨g1, g2, rfl, S⟩
  have S := sepJoin HS.out S
  clear HS HPC
  have S : Sep w w2 [oIs g1 286 (cntA (allN s)), oIs g2 30 (cntB (allN s)), oSl 94 3 v0 (allN s).length (pcC (allN s))] := S
  have HS := Lib.hid S
  clear S
  have hE : s.toList.isEmpty = decide (s.size = 0) := by
    have hz : s.size = s.data.toList.length := (Array.length_toList).symm
    rw [ByteArray.toList_eq, hz]
    cases s.data.toList <;> simp
  have HE := Lib.hid hE
  clear hE
  go_upto_if 28 with fail
  obtain ⟨cc, hcc⟩ : ∃ cc : Bool, decide (s.size = 0) = cc := ⟨_, rfl⟩
  rw [HE.out, hcc]
  have HCC := Lib.hid hcc
  clear HE hcc
  go_cut [] from 29 to 30 (fun wx => Sep w wx [oIs g1 286 (dA s), oIs g2 30 (cntB (allN s)), oSl 94 3 v0 (allN s).length (pcC (allN s))])
  case first =>
    cases cc with
    | true =>
      have h0 := of_decide_eq_true HCC.out
      have hd : dA s = (cntA (allN s)).set 0 1 := if_pos h0
      have f0 := row_free (g := g1) (HS.out.get 0 rfl) 0
      have r0 := row_at (g := g1) (HS.out.get 0 rfl) (k := 0) (by have := HA.out.l1; rw [hd, List.length_set] at this; omega)
      have HD := Lib.hid hd
      clear h0 hd
      go_wp2_with fail
      go_meet
      rw [HD.out]
      exact row_set HS.out 0 rfl
    | false =>
      have hd : dA s = cntA (allN s) := if_neg (of_decide_eq_false HCC.out)
      have HD := Lib.hid hd
      clear hd
      go_wp2_with fail
      go_meet
      rw [HD.out]
      exact HS.out
  case rest =>
    clear HS HCC
    have HS := Lib.hid hcut
    clear hcut
    have hl1 := HA.out.l1
    have hl2 := HA.out.l2
    have e1 : (.slice (some ⟨g1, 0, none⟩) 286 286 : Value) = .slice (some ⟨g1, 0, none⟩) (dA s).length 286 := by rw [hl1]
    have e2 : (.slice (some ⟨g2, 0, none⟩) 30 30 : Value) = .slice (some ⟨g2, 0, none⟩) (cntB (allN s)).length 30 := by rw [hl2]
    have HL := Lib.hid (⟨hl1, hl2, e1, e2⟩ : _ ∧ _ ∧ _ ∧ _)
    clear hl1 hl2 e1 e2
    go_wp2_with fail
    rw [HL.out.2.2.1]
    refine (lensS HS.out 0 15 rfl HT.out.err1 (by rw [HL.out.1]; omega)).mono ?_
    rintro e w4 ⟨q1, c1, rfl, S⟩
    rw [HL.out.1]
    have S : Sep w w4 [oIs q1 c1 (dD1 s), oIs g1 286 (dA s), oIs g2 30 (cntB (allN s)), oSl 94 3 v0 (allN s).length (pcC (allN s))] := S
    clear HS
    have HS := Lib.hid S
    clear S
    go_wp2_with fail
    rw [HL.out.2.2.2]
    refine (lensS HS.out 2 15 rfl HT.out.err2 (by rw [HL.out.2.1]; omega)).mono ?_
    rintro e w5 ⟨q2, c2, rfl, S⟩
    rw [HL.out.2.1]
    have S : Sep w w5 [oIs q2 c2 (dD2 s), oIs q1 c1 (dD1 s), oIs g1 286 (dA s), oIs g2 30 (cntB (allN s)), oSl 94 3 v0 (allN s).length (pcC (allN s))] := S
    clear HS
    have HS := Lib.hid S
    clear S
    have hd1 : (dD1 s).length = 286 := by unfold dD1; rw [lensF_len]; exact HL.out.1
    have hd2 : (dD2 s).length = 30 := by unfold dD2; rw [lensF_len]; exact HL.out.2.1
    have t1 := trimS HS.out 1 257 rfl (by rw [hd1]; omega) (by omega)
    rw [hd1] at t1
    have HT1 := Lib.hid t1
    clear t1
    go_wp2_with fail
    refine HT1.out.mono ?_
    rintro e w6 ⟨rfl, S⟩
    clear HS HT1
    have t1 := trimS S 0 1 rfl (by rw [hd2]; omega) (by omega)
    rw [hd2] at t1
    have HT1 := Lib.hid t1
    clear t1 S
    go_wp2_with fail
    refine HT1.out.mono ?_
    rintro e w7 ⟨rfl, S⟩
    clear HT1
    have HS := Lib.hid S
    clear S
    obtain ⟨m1, hm1⟩ : ∃ m1, (trimN 257 (dD1 s)).length = m1 := ⟨_, rfl⟩
    obtain ⟨m2, hm2⟩ : ∃ m2, (trimN 1 (dD2 s)).length = m2 := ⟨_, rfl⟩
    rw [hm1, hm2]
    have ht1 : dT1 s = (dD1 s).take m1 := by
      obtain ⟨m, h1, h2, _⟩ := trimN_spec 257 (dD1 s)
      have : m1 = m := by rw [← hm1, h1, List.length_take]; omega
      rw [this]
      exact h1
    have ht2 : dT2 s = (dD2 s).take m2 := by
      obtain ⟨m, h1, h2, _⟩ := trimN_spec 1 (dD2 s)
      have : m2 = m := by rw [← hm2, h1, List.length_take]; omega
      rw [this]
      exact h1
    have hb1 := HT.out.tab1.len
    have hb2 := HT.out.tab2.len
    rw [HL.out.1, show (dT1 s).length = m1 from hm1] at hb1
    rw [HL.out.2.1, show (dT2 s).length = m2 from hm2] at hb2
    obtain ⟨ALL, hALL⟩ : ∃ ALL, dT1 s ++ dT2 s = ALL := ⟨_, rfl⟩
    have hALLl : ALL.length = m1 + m2 := by rw [← hALL, List.length_append, show (dT1 s).length = m1 from hm1, show (dT2 s).length = m2 from hm2]
    have HD := Lib.hid (⟨hd1, hd2, ht1, ht2, hm1, hm2, hALL, hALLl⟩ : _ ∧ _ ∧ _ ∧ _ ∧ _ ∧ _ ∧ _ ∧ _)
    have hcat := concatS HS.out 1 0 rfl rfl (show m1 ≤ (dD1 s).length by omega) (show m2 ≤ (dD2 s).length by omega) (by omega) (by omega) (by omega)
    rw [← ht1, ← ht2, hALL] at hcat
    have HCAT := Lib.hid hcat
    clear hd1 hd2 hm1 hm2 ht1 ht2 hALL hALLl hcat HL
    go_wp2_with fail
    refine HCAT.out.mono ?_
    rintro e w8 ⟨q3, c3, rfl, S⟩
    clear HCAT HS
    have HS := Lib.hid S
    clear S
    go_wp2_with fail
    refine (orderD_walk HS.out).mono ?_
    rintro e w9 ⟨qo, rfl, S⟩
    clear HS
    have HS := Lib.hid S
    clear S
    obtain ⟨qf, w10, hmk, hx10, S⟩ := made 19 (by decide) HS.out
    replace hmk : (Instr.makeSlice 58 (.int .i64 19) (.int .i64 19)).run Tryz.prog w9 = .ok (.slice (some ⟨qf, 0, none⟩) 19 19) w10 := hmk
    clear HS hx10
    have HS := Lib.hid S
    clear S
    go_upto_region 10 with fail
    clear hmk
    have S := HS.out.new ((Ext.refl [] w10).alloc (bxI (.slice (some ⟨qf, 0, none⟩) 19 19))) (Ob.one w10.heap.size (bxI (.slice (some ⟨qf, 0, none⟩) 19 19))) (heap_alloc_at _) (fun k hk => by rw [List.mem_singleton.1 hk]; exact Nat.le_refl _)
    obtain ⟨fb, hfb⟩ : ∃ fb, w10.heap.size = fb := ⟨_, rfl⟩
    obtain ⟨w11, hw11⟩ : ∃ w11, w10.alloc (bxI (.slice (some ⟨qf, 0, none⟩) 19 19)) = w11 := ⟨_, rfl⟩
    rw [hfb, hw11] at S
    simp only [hfb]
    rw [hw11]
    clear HS hfb hw11
    have HS := Lib.hid S
    clear S
    rw [← HD.out.2.2.2.2.2.2.2]
    go_wp2_with fail
    refine (rowD_walk _ _ _ w11).mono ?_
    rintro e w12 ⟨rfl, rfl⟩
    go_wp2_with fail
    obtain ⟨rb, hrb⟩ : ∃ rb, w11.heap.size = rb := ⟨_, rfl⟩
    obtain ⟨w12, hw12⟩ : ∃ w12, w11.alloc (bxI (.slice (some ⟨q3, 0, none⟩) ALL.length c3)) = w12 := ⟨_, rfl⟩
    have hrow12 : w12.heap[rb]? = some (bxI (.slice (some ⟨q3, 0, none⟩) ALL.length c3)) := by rw [← hw12, ← hrb]; exact heap_alloc_at _
    have hx12 : Ext [] w11 w12 := by rw [← hw12]; exact (Ext.refl [] w11).alloc _
    rw [hrb, hw12]
    have hs12 : w12.heap.size = rb + 1 := by rw [← hw12, ← hrb]; simp
    have hq3 : q3 < rb := by rw [← hrb]; exact (oIs q3 c3 ALL).lt (HS.out.get 3 rfl) q3 (by simp [oSl, Value.ownBlock])
    have hin : IntsIn w12 (.slice (some ⟨q3, 0, none⟩) ALL.length c3) ALL q3 := by
      obtain ⟨h1, ao, c, he, hc, _⟩ := ints_of (HS.out.get 3 rfl)
      injection he with _ _ e3
      subst e3
      exact ⟨_, c3, rfl, hc, fun _ => ⟨0, rfl, fun i x hi => by
        have hr := row_at (HS.out.get 3 rfl) (k := i) (by have := (List.getElem?_eq_some_iff.1 hi).1; omega)
        rw [List.getD_eq_getElem?_getD, hi] at hr
        rw [Nat.zero_add]
        exact Ext.cell hx12 hr⟩⟩
    have hall15 : ∀ x ∈ ALL, 0 ≤ x ∧ x ≤ 15 := by rw [← HD.out.2.2.2.2.2.2.1]; exact HT.out.row.all15
    have hALLl := HD.out.2.2.2.2.2.2.2
    have HI := Lib.hid (⟨hrow12, hx12, hs12, hq3, hin, hall15, hrb⟩ : _ ∧ _ ∧ _ ∧ _ ∧ _ ∧ _ ∧ _)
    clear hrow12 hx12 hin hall15 hrb hw12
    refine wp_rangeA (gf := 60) (lb := #[pO rb]) rfl (Go.Proofs.enters_of Tryz.func60 (by kernel_rfl) rfl) (row_iter (.slice (some ⟨q3, 0, none⟩) ALL.length c3) ALL rb q3 (by omega) (by omega) HI.out.2.2.2.2.2.1) (fun _ => rfl)
      w12.heap.size (w12.heap.size + 1) rfl rfl (by simp; omega) (by simp; omega) (fun W hx => ⟨hx.keep HI.out.1 (by simp), HI.out.2.2.2.2.1.ext hx (by simp)⟩)
      (fun pre W => Sep w W [Ob.room [w12.heap.size, w12.heap.size + 1, rb], Ob.one fb (bxI (.slice (some ⟨qf, 0, none⟩) 19 19)), oIs qf 19 (fqT pre), oIs qo 19 ordZ9, oIs q3 c3 ALL, oIs q2 c2 (dD2 s), oIs q1 c1 (dD1 s), oIs g1 286 (dA s), oIs g2 30 (cntB (allN s)), oSl 94 3 v0 (allN s).length (pcC (allN s))])
      (fun _ _ _ => False)
      (fun p A B h hx => h.upd 0 (Ob.room [w12.heap.size, w12.heap.size + 1, rb]) rfl hx (Fr.refl _ _) (fun k hk => Nat.lt_of_lt_of_le (h.get 0 rfl k hk) hx.size))
      (fun _ _ _ _ h _ => h)
      (fun W hx hw => HS.out.new (HI.out.2.1.trans hx) (Ob.room [w12.heap.size, w12.heap.size + 1, rb]) (fun k hk => by have := HI.out.2.2.1; simp at hk hw; omega) (fun k hk => by have := HI.out.2.2.1; have := HI.out.2.2.2.2.2.2; simp [Ob.room] at hk ⊢; omega))
      ?round ?done ?stop
    case stop => exact fun _ _ _ _ _ _ h _ => h.elim
    case round =>
      rintro pre x post W hxs S hlt
      have HS := Lib.hid S
      clear S
      obtain ⟨x1, x2, x3⟩ := x
      unfold encT
      gi_wp2_with fail
      refine ⟨(Ext.refl _ _).alloc _, fun o => ?_⟩
      have hrr : (x1, x2, x3) ∈ dR s := by unfold dR; rw [HD.out.2.2.2.2.2.2.1, hxs]; simp
      have htd := HT.out.row.td _ hrr
      have hsz := td_rng htd
      have hpl : pre.length ≤ 316 := by
        have h := HT.out.row.len
        unfold dR at h
        rw [HD.out.2.2.2.2.2.2.1, hxs, List.length_append] at h
        omega
      obtain ⟨f1, f2, _⟩ := fq_ok pre (zers 19) 0 (zers_len _) (Int.le_refl _) (Rg.zers _) (fun x hx => td_rng (HT.out.row.td x (by unfold dR; rw [HD.out.2.2.2.2.2.2.1, hxs]; exact List.mem_append_left _ hx)))
      have f1 : (fqT pre).length = 19 := f1
      obtain ⟨k, hk⟩ : ∃ k : Nat, x1 = k := ⟨x1.toNat, by simp at hsz; omega⟩
      subst hk
      simp only at hsz
      have hk19 : k < 19 := by omega
      have f2 : 0 ≤ (fqT pre).getD k 0 ∧ (fqT pre).getD k 0 ≤ 0 + (pre.length : Int) := Rg.at f2 (by omega) k
      obtain ⟨XW, hXW⟩ : ∃ XW, W.alloc (.cells #[.int .i64 (k : Int), .int .i64 (x2 : Nat), .int .i64 (x3 : Nat)] 74) = XW := ⟨_, rfl⟩
      obtain ⟨xb, hxb⟩ : ∃ xb, W.heap.size = xb := ⟨_, rfl⟩
      have hxa : Ext [] W XW := by rw [← hXW]; exact (Ext.refl [] W).alloc _
      have hbx : XW.heap[xb]? = some (.cells #[.int .i64 (k : Int), .int .i64 (x2 : Nat), .int .i64 (x3 : Nat)] 74 (0, 0)) := by rw [← hXW, ← hxb]; exact heap_alloc_at _
      simp only [hXW, hxb]
      obtain ⟨L, hL⟩ : ∃ L, w12.heap.size + 1 = L := ⟨_, rfl⟩
      rw [hL] at hlt
      simp only [hL]
      obtain ⟨V, hV⟩ : ∃ V, XW.putObj L o = V := ⟨_, rfl⟩
      have hxv : Ext [L] XW V := by rw [← hV]; exact Ext.putObj _ _ _
      rw [hV]
      have S := (HS.out.quiet hxa).upd 0 (Ob.room [w12.heap.size, w12.heap.size + 1, rb]) rfl (hxv.mono (fun i _ hi => by simp at hi; simp [Ob.room]; omega)) (Fr.refl _ _) (fun k hk => Nat.lt_of_lt_of_le (HS.out.get 0 rfl k hk) (Nat.le_trans hxa.size hxv.size))
      have hbV := hxv.keep hbx (by simp; omega)
      have b0 := cellOf hbV 0
      have fbV : V.heap[fb]? = some (bxI (.slice (some ⟨qf, 0, none⟩) 19 19)) := S.get 1 rfl
      have b1 : V.cell? ⟨fb, 0, none⟩ = some (.slice (some ⟨qf, 0, none⟩) 19 19) := cellOf fbV 0
      have b2 := row_at (g := qf) (S.get 2 rfl) (k := k) (by omega)
      have b3 := row_free (g := qf) (S.get 2 rfl) k
      obtain ⟨y, hy⟩ : ∃ y, (fqT pre).getD k 0 = y := ⟨_, rfl⟩
      rw [hy] at b2 f2
      have HS := Lib.hid S
      have HY := Lib.hid (⟨hy, hL, f1⟩ : _ ∧ _ ∧ _)
      clear S hy hL hXW hxb hxa hbx hV hxv hbV fbV f1 hrr htd
      gi_wp2_with fail
      have S := row_set (k := k) (x := y + 1) HS.out 2 rfl
      have e9 : (fqT pre).set k (y + 1) = fqT (pre ++ [((k : Int), x2, x3)]) := by
        rw [fqT_snoc]
        show _ = (fqT pre).set (k : Int).toNat ((fqT pre).getD (k : Int).toNat 0 + 1)
        rw [Int.toNat_natCast, HY.out.1]
      rw [e9, HY.out.2.1] at S
      refine ⟨KeepsT.of_ext ((Ext.refl [qf] V).setCell ⟨qf, k, none⟩ (.int .i64 (y + 1)) (by simp)) (fun j hj => ?_), S⟩
      have hqf : qf ∈ (oIs qf 19 (fqT pre)).F := by simp [oSl, Value.ownBlock]
      have z0 := HS.out.apart 2 0 _ _ rfl rfl (by omega) qf hqf
      have z3 := HS.out.apart 2 4 _ _ rfl rfl (by omega) qf hqf
      have y0 := HS.out.get 0 rfl
      have y3 := (oIs q3 c3 ALL).lt (HS.out.get 4 rfl) q3 (by simp [oSl, Value.ownBlock])
      have hL := HY.out.2.1
      simp [Ob.room, oSl, Value.ownBlock] at z0 z3 y0
      simp at hj
      simp
      omega
    case done =>
      rintro W S hD
      obtain ⟨d1, hd1⟩ : ∃ d1, w12.heap.size = d1 := ⟨_, rfl⟩
      rw [hd1] at hD S
      simp only [hd1]
      have hdr : rowW 0 ALL = dR s := by unfold dR; rw [HD.out.2.2.2.2.2.2.1]
      rw [hdr] at S
      have S := S.upd 0 (Ob.one d1 (.deferred (some []))) rfl (Ext.refl _ _) (fun g hg => .inl (by simp [Ob.one] at hg; simp [Ob.room, hg])) hD
      have S : Sep w W [Ob.one d1 (.deferred (some [])), Ob.one fb (bxI (.slice (some ⟨qf, 0, none⟩) 19 19)), oIs qf 19 (fqT (dR s)), oIs qo 19 ordZ9, oIs q3 c3 ALL, oIs q2 c2 (dD2 s), oIs q1 c1 (dD1 s), oIs g1 286 (dA s), oIs g2 30 (cntB (allN s)), oSl 94 3 v0 (allN s).length (pcC (allN s))] := S
      have hb : W.heap[fb]? = some (bxI (.slice (some ⟨qf, 0, none⟩) 19 19)) := S.get 1 rfl
      have b1 : W.cell? ⟨fb, 0, none⟩ = some (.slice (some ⟨qf, 0, none⟩) 19 19) := cellOf hb 0
      have hfl : (fqT (dR s)).length = 19 := by
        have h1 := HT.out.row.lt.len
        have h2 := HT.out.row.l19
        omega
      have hl7 := lensS S 2 7 rfl HT.out.row.err (by omega)
      rw [hfl] at hl7
      have HL7 := Lib.hid hl7
      clear hdr hD hd1 hb hfl hl7 S HI hs12
      go_wp2_with fail
      refine HL7.out.mono ?_
      rintro e w13 ⟨q5, c5, rfl, S⟩
      have S : Sep w w13 (oIs q5 c5 (dO s) :: _) := S
      have HS := Lib.hid S
      clear HL7 S b1
      go_wp2_with fail
      refine (orderD_walk HS.out).mono ?_
      rintro e w14 ⟨qp, rfl, S⟩
      have S := S.new (Ext.refl _ _) (oSl 3 1 (.slice none 0 0) 0 []) (World.ownsRow_nil _ _ _ _) (by simp [oSl, Value.ownBlock])
      clear HS
      have HS := Lib.hid S
      clear S
      obtain ⟨j0, hjf, hy0, hy1, hy2⟩ := info_parts infoInt7
      have hol : (ordO (dO s)).length = 19 := by simp [ordO, ordN]
      have HOL := Lib.hid hol
      clear hol
      have hO19 := HT.out.row.l19
      have HO := Lib.hid hO19
      clear hO19
      have hzl : ordZ9.length = 19 := by decide
      have HZL := Lib.hid hzl
      clear hzl
      go_wp2_with fail
      go_loopg [11, 69] 19 (fun g ov iv wr => ∃ (k : Nat) (o : List Int) (ao : Option Addr) (cap : Nat), g + k = 19 ∧ iv = .int .i64 k ∧ ov = .slice ao o.length cap ∧ o.length = k ∧ o ++ (ordO (dO s)).drop k = ordO (dO s) ∧ Sep w wr [oSl 3 1 (.slice ao o.length cap) o.length (o.map iz), oIs qp 19 ordZ9, oIs q5 c5 (dO s), Ob.one d1 (.deferred (some [])), Ob.one fb (bxI (.slice (some ⟨qf, 0, none⟩) 19 19)), oIs qf 19 (fqT (dR s)), oIs qo 19 ordZ9, oIs q3 c3 ALL, oIs q2 c2 (dD2 s), oIs q1 c1 (dD1 s), oIs g1 286 (dA s), oIs g2 30 (cntB (allN s)), oSl 94 3 v0 (allN s).length (pcC (allN s))])
      case atStart => exact ⟨0, [], none, 0, by omega, rfl, rfl, rfl, rfl, HS.out⟩
      case round =>
        clear HS
        obtain ⟨k, o, ao, cap, hgk, rfl, rfl, hok, hcat, S⟩ := hrel
        have HS := Lib.hid S
        clear S
        by_cases hlt : k < 19
        · obtain ⟨g, rfl⟩ : ∃ g, gk = g + 1 := ⟨gk - 1, by omega⟩
          have hkz : (k : Int) < 19 := by omega
          obtain ⟨m, hm⟩ : ∃ m, ordN.getD k 0 = m := ⟨_, rfl⟩
          have hm19 : m < 19 := by rw [← hm]; exact (ord_pos k hlt).1
          have r0 := row_at (g := qp) (HS.out.get 1 rfl) (k := k) (by rw [HZL.out]; exact hlt)
          have hzk : ordZ9.getD k 0 = (m : Int) := by
            unfold ordZ9
            rw [List.getD_eq_getElem?_getD, List.getElem?_map]
            rw [List.getD_eq_getElem?_getD] at hm
            have hk9 : k < ordN.length := by simpa [ordN] using hlt
            rw [List.getElem?_eq_getElem hk9] at hm ⊢
            simp at hm ⊢
            exact_mod_cast hm
          rw [hzk] at r0
          have r1 := row_at (g := q5) (HS.out.get 2 rfl) (k := m) (by rw [HO.out]; exact hm19)
          obtain ⟨y, hy⟩ : ∃ y, (dO s).getD m 0 = y := ⟨_, rfl⟩
          rw [hy] at r1
          have hdr : (ordO (dO s)).drop k = y :: (ordO (dO s)).drop (k + 1) := by
            refine drop_at ?_
            unfold ordO
            rw [List.getElem?_map]
            have hk9 : k < ordN.length := by simpa [ordN] using hlt
            rw [List.getD_eq_getElem?_getD] at hm
            rw [List.getElem?_eq_getElem hk9] at hm ⊢
            simp only [Option.getD_some] at hm
            rw [Option.map_some, hm, hy]
          rw [hdr] at hcat
          have HC := Lib.hid hcat
          have hown : wr.ownsRow 0 3 1 (.slice ao o.length cap) o.length (o.map iz) := HS.out.get 0 rfl
          clear hm hzk hy hdr hcat
          go_wp2_with (at_builtin; refine wpList_append_lies _ rfl _ _ 58 rfl 0 3 j0 _ 1 8 Tryz.underlying58 hjf hy0 hy1 hy2 rfl (by decide) (.slice ao o.length cap) o.length (o.map iz) rfl (World.ownsRow.alloc hown _) ⟨wr.heap.size, 0, none⟩ 1 1 [iz y] rfl rfl (cell_one_new _ _ _) (by simp [Value.oneCell']) (by decide) (by unfold maxLen; omega) (by omega) (by omega) (wr.heap.size + 1) (by simp) ?_; intro ga capa w2 hown1 hgrow1 hat1 hlt1; have P1 := push_local (cap := capa) (n := o.length + 1) hgrow1 hat1; have H2 := Lib.hid (HS.out.upd 0 (oSl 3 1 (.slice (some ⟨ga, 0, none⟩) (o ++ [y]).length capa) (o ++ [y]).length ((o ++ [y]).map iz)) rfl P1.1 (by have := P1.2; simpa only [oSl, List.length_append, List.length_singleton] using this) (show w2.ownsRow 0 3 1 (.slice (some ⟨ga, 0, none⟩) (o ++ [y]).length capa) (o ++ [y]).length ((o ++ [y]).map iz) by rw [List.map_append, List.length_append]; exact hown1)); clear P1 hown1 hgrow1 hat1 hown)
          go_roundg g
          case measure => omega
          case rel => exact ⟨k + 1, o ++ [y], _, capa, by omega, by go_num, by rw [List.length_append, hok]; rfl, by rw [List.length_append, List.length_singleton]; omega, by rw [List.append_assoc]; exact HC.out, H2.out⟩
        · obtain rfl : k = 19 := by omega
          rw [List.drop_of_length_le (by rw [HOL.out]; exact Nat.le_refl _), List.append_nil] at hcat
          subst hcat
          have hown : wr.ownsRow 0 3 1 (.slice ao (ordO (dO s)).length cap) (ordO (dO s)).length ((ordO (dO s)).map iz) := HS.out.get 0 rfl
          obtain ⟨gt, ct, hgt⟩ := own_at hown (by omega)
          injection hgt with e1 _ e3
          subst e1 e3
          have S : Sep w wr [oIs gt cap (ordO (dO s)), oIs qp 19 ordZ9, oIs q5 c5 (dO s), Ob.one d1 (.deferred (some [])), Ob.one fb (bxI (.slice (some ⟨qf, 0, none⟩) 19 19)), oIs qf 19 (fqT (dR s)), oIs qo 19 ordZ9, oIs q3 c3 ALL, oIs q2 c2 (dD2 s), oIs q1 c1 (dD1 s), oIs g1 286 (dA s), oIs g2 30 (cntB (allN s)), oSl 94 3 v0 (allN s).length (pcC (allN s))] := HS.out
          have htr := trimS S 0 4 rfl (by rw [HOL.out]; omega) (by omega)
          have HTR := Lib.hid htr
          clear htr S hown HS
          go_wp2_with fail
          refine HTR.out.mono ?_
          rintro e w15 ⟨rfl, S⟩
          have hte : trimN 4 (ordO (dO s)) = dTold s := rfl
          rw [hte]
          obtain ⟨mt, hmt⟩ : ∃ mt, (dTold s).length = mt := ⟨_, rfl⟩
          have hmt2 := HT.out.told.len
          rw [hmt] at hmt2 ⊢
          have htk : dTold s = (ordO (dO s)).take mt := by
            obtain ⟨m, h1, h2, _⟩ := trimN_spec 4 (ordO (dO s))
            have h1 : dTold s = (ordO (dO s)).take m := h1
            have : mt = m := by rw [← hmt, h1, List.length_take]; omega
            rw [this]
            exact h1
          have HMT := Lib.hid (⟨hmt, htk⟩ : _ ∧ _)
          have HS := Lib.hid S
          clear HTR hmt htk hte S
          go_wp2_with fail
          refine (begin_walk 2 (by decide) HS.out).mono ?_
          rintro e w16 ⟨pb, wb, Fw, rfl, S⟩
          have HS := Lib.hid S
          clear S
          go_upto_region 22 with fail
          have S := HS.out.new ((Ext.refl [] w16).alloc (.cells #[pO pb] 55)) (Ob.one w16.heap.size (.cells #[pO pb] 55 (0, 0))) (heap_alloc_at _) (fun k hk => by rw [List.mem_singleton.1 hk]; exact Nat.le_refl _)
          obtain ⟨bx, hbx⟩ : ∃ bx, w16.heap.size = bx := ⟨_, rfl⟩
          obtain ⟨w17, hw17⟩ : ∃ w17, w16.alloc (.cells #[pO pb] 55) = w17 := ⟨_, rfl⟩
          rw [hbx, hw17] at S
          simp only [hbx]
          rw [hw17]
          clear HS hbx hw17
          have S : Sep w w17 [Ob.one bx (.cells #[pO pb] 55 (0, 0)), oPk pb wb (.pointer none) (.pointer none), oW wb Fw false (bitsOf false 1 1 ++ bitsOf false 2 2), oIs gt cap (ordO (dO s)), oIs qp 19 ordZ9, oIs q5 c5 (dO s), Ob.one d1 (.deferred (some [])), Ob.one fb (bxI (.slice (some ⟨qf, 0, none⟩) 19 19)), oIs qf 19 (fqT (dR s)), oIs qo 19 ordZ9, oIs q3 c3 ALL, oIs q2 c2 (dD2 s), oIs q1 c1 (dD1 s), oIs g1 286 (dA s), oIs g2 30 (cntB (allN s)), oSl 94 3 v0 (allN s).length (pcC (allN s))] := S
          have HS := Lib.hid S
          clear S
          have ha1 : (m1 : Int) - 257 = ((m1 - 257 : Nat) : Int) := by omega
          have ha2 : (m2 : Int) - 1 = ((m2 - 1 : Nat) : Int) := by omega
          have ha3 : (mt : Int) - 4 = ((mt - 4 : Nat) : Int) := by omega
          obtain ⟨a1, hza1⟩ : ∃ a1, m1 - 257 = a1 := ⟨_, rfl⟩
          obtain ⟨a2, hza2⟩ : ∃ a2, m2 - 1 = a2 := ⟨_, rfl⟩
          obtain ⟨a3, hza3⟩ : ∃ a3, mt - 4 = a3 := ⟨_, rfl⟩
          rw [hza1] at ha1
          rw [hza2] at ha2
          rw [hza3] at ha3
          have hbd : a1 < 32 ∧ a2 < 32 ∧ a3 < 16 := by omega
          have HZA := Lib.hid (⟨hza1, hza2, hza3⟩ : _ ∧ _ ∧ _)
          clear hza1 hza2 hza3
          have x0 : w17.cell? ⟨bx, 0, none⟩ = some (pO pb) := cellOf (show w17.heap[bx]? = some (.cells #[pO pb] 55 (0, 0)) from HS.out.get 0 rfl) 0
          have y0 : w17.cell? ⟨pb, 0, none⟩ = some (pO wb) := cellOf (pk_at 1 HS.out rfl) 0
          go_wp2_with fail
          refine (pt 2 (b := wb) (v := a1) (n := 5) HS.out rfl (by simp only [List.length_append, bitsOf_length]; omega) (by show a1 < 32; omega) (by omega)).mono ?_
          rintro e w18 ⟨rfl, Fw2, S⟩
          clear HS x0 y0
          have HS := Lib.hid S
          clear S
          have x0 : w18.cell? ⟨bx, 0, none⟩ = some (pO pb) := cellOf (show w18.heap[bx]? = some (.cells #[pO pb] 55 (0, 0)) from HS.out.get 0 rfl) 0
          have y0 : w18.cell? ⟨pb, 0, none⟩ = some (pO wb) := cellOf (pk_at 1 HS.out rfl) 0
          go_wp2_with fail
          refine (pt 2 (b := wb) (v := a2) (n := 5) HS.out rfl (by simp only [List.length_append, bitsOf_length]; omega) (by show a2 < 32; omega) (by omega)).mono ?_
          rintro e w19 ⟨rfl, Fw3, S⟩
          clear HS x0 y0
          have HS := Lib.hid S
          clear S
          have x0 : w19.cell? ⟨bx, 0, none⟩ = some (pO pb) := cellOf (show w19.heap[bx]? = some (.cells #[pO pb] 55 (0, 0)) from HS.out.get 0 rfl) 0
          have y0 : w19.cell? ⟨pb, 0, none⟩ = some (pO wb) := cellOf (pk_at 1 HS.out rfl) 0
          go_wp2_with fail
          refine (pt 2 (b := wb) (v := a3) (n := 4) HS.out rfl (by simp only [List.length_append, bitsOf_length]; omega) (by show a3 < 16; omega) (by omega)).mono ?_
          rintro e w20 ⟨rfl, Fw4, S⟩
          clear HS x0 y0
          obtain ⟨H0, hH0⟩ : ∃ H0, bitsOf false 1 1 ++ bitsOf false 2 2 ++ bitsOf false a1 5 ++ bitsOf false a2 5 ++ bitsOf false a3 4 = H0 := ⟨_, rfl⟩
          have S : Sep w w20 [Ob.one bx (.cells #[pO pb] 55 (0, 0)), oPk pb wb (.pointer none) (.pointer none), oW wb Fw4 false (bitsOf false 1 1 ++ bitsOf false 2 2 ++ bitsOf false a1 5 ++ bitsOf false a2 5 ++ bitsOf false a3 4), oIs gt cap (ordO (dO s)), oIs qp 19 ordZ9, oIs q5 c5 (dO s), Ob.one d1 (.deferred (some [])), Ob.one fb (bxI (.slice (some ⟨qf, 0, none⟩) 19 19)), oIs qf 19 (fqT (dR s)), oIs qo 19 ordZ9, oIs q3 c3 ALL, oIs q2 c2 (dD2 s), oIs q1 c1 (dD1 s), oIs g1 286 (dA s), oIs g2 30 (cntB (allN s)), oSl 94 3 v0 (allN s).length (pcC (allN s))] := S
          rw [hH0] at S
          have hHl : H0.length = 17 := by rw [← hH0]; simp only [List.length_append, bitsOf_length]
          have HH := Lib.hid (⟨hH0, hHl⟩ : _ ∧ _)
          have HS := Lib.hid S
          clear S hH0 hHl ha1 ha2 ha3
          go_wp2_with fail
          go_loopg [113] mt (fun g iv wr => ∃ (k : Nat) (Fw bl : List Nat), g + k = mt ∧ iv = .int .i64 k ∧ bl ++ b3 ((dTold s).drop k) = H0 ++ b3 (dTold s) ∧ Sep w wr [Ob.one bx (.cells #[pO pb] 55 (0, 0)), oPk pb wb (.pointer none) (.pointer none), oW wb Fw false bl, oIs gt cap (ordO (dO s)), oIs qp 19 ordZ9, oIs q5 c5 (dO s), Ob.one d1 (.deferred (some [])), Ob.one fb (bxI (.slice (some ⟨qf, 0, none⟩) 19 19)), oIs qf 19 (fqT (dR s)), oIs qo 19 ordZ9, oIs q3 c3 ALL, oIs q2 c2 (dD2 s), oIs q1 c1 (dD1 s), oIs g1 286 (dA s), oIs g2 30 (cntB (allN s)), oSl 94 3 v0 (allN s).length (pcC (allN s))])
          case atStart => exact ⟨0, Fw4, H0, by omega, rfl, by rw [List.drop_zero], HS.out⟩
          case round =>
            clear HS
            obtain ⟨k, Fw, bl, hgk, rfl, hB, S⟩ := hrel
            have hbl : bl.length ≤ 17 + 57 := by
              have h1 := congrArg List.length hB
              rw [List.length_append, List.length_append, b3_len, b3_len, HMT.out.1, HH.out.2] at h1
              omega
            have HS := Lib.hid S
            clear S
            by_cases hlt : k < mt
            · obtain ⟨g, rfl⟩ : ∃ g, gk = g + 1 := ⟨gk - 1, by omega⟩
              have hkz : (k : Int) < (mt : Int) := by omega
              obtain ⟨x, hx⟩ : ∃ x, (dTold s)[k]? = some x := ⟨_, List.getElem?_eq_getElem (by rw [HMT.out.1]; exact hlt)⟩
              have hx7 := HT.out.told.rg x (List.mem_of_getElem? hx)
              have r0 := row_at (g := gt) (HS.out.get 3 rfl) (k := k) (by rw [HOL.out]; omega)
              have hxe : (ordO (dO s)).getD k 0 = x := by
                rw [HMT.out.2, List.getElem?_take, if_pos hlt] at hx
                rw [List.getD_eq_getElem?_getD, hx]
                rfl
              rw [hxe] at r0
              rw [drop_at hx, b3_cons, ← List.append_assoc] at hB
              obtain ⟨z, rfl⟩ : ∃ z : Nat, x = z := ⟨x.toNat, by omega⟩
              rw [Int.toNat_natCast] at hB
              have hz7 : z ≤ 7 := by omega
              have HB := Lib.hid hB
              have x0 : wr.cell? ⟨bx, 0, none⟩ = some (pO pb) := cellOf (show wr.heap[bx]? = some (.cells #[pO pb] 55 (0, 0)) from HS.out.get 0 rfl) 0
              have y0 : wr.cell? ⟨pb, 0, none⟩ = some (pO wb) := cellOf (pk_at 1 HS.out rfl) 0
              clear hx hxe hB hx7
              go_wp2_with fail
              refine (pt 2 (b := wb) (v := z) (n := 3) HS.out rfl (by omega) (by show z < 8; omega) (by omega)).mono ?_
              rintro e w21 ⟨rfl, Fw5, S⟩
              have S : Sep w w21 [Ob.one bx (.cells #[pO pb] 55 (0, 0)), oPk pb wb (.pointer none) (.pointer none), oW wb Fw5 false (bl ++ bitsOf false z 3), oIs gt cap (ordO (dO s)), oIs qp 19 ordZ9, oIs q5 c5 (dO s), Ob.one d1 (.deferred (some [])), Ob.one fb (bxI (.slice (some ⟨qf, 0, none⟩) 19 19)), oIs qf 19 (fqT (dR s)), oIs qo 19 ordZ9, oIs q3 c3 ALL, oIs q2 c2 (dD2 s), oIs q1 c1 (dD1 s), oIs g1 286 (dA s), oIs g2 30 (cntB (allN s)), oSl 94 3 v0 (allN s).length (pcC (allN s))] := S
              have HS := Lib.hid S
              clear S x0 y0 r0
              go_wp2_with fail
              go_roundg g
              case measure => omega
              case rel => exact ⟨k + 1, Fw5, _, by omega, by go_num, HB.out, HS.out⟩
            · obtain rfl : k = mt := by omega
              rw [← HMT.out.1, List.drop_length, show b3 [] = [] from rfl, List.append_nil] at hB
              subst hB
              have e9 : (.slice (some ⟨q5, 0, none⟩) 19 c5 : Value) = .slice (some ⟨q5, 0, none⟩) (dO s).length c5 := by rw [HO.out]
              have HE9 := Lib.hid e9
              clear e9
              go_wp2_with fail
              refine (new_walk _ (dO s) wr (by rw [HE9.out]; exact ints_of (HS.out.get 5 rfl)) HT.out.row.lt.codes).mono ?_
              rintro e w22 ⟨tb, FT, rfl, hx, hp, hf⟩
              have S := HS.out.new hx (oTab tb FT (dO s)) hp hf
              clear HS HE9 hx hp hf
              have HS := Lib.hid S
              clear S
              go_upto_region 31 with fail
              have S := HS.out.new ((Ext.refl [] w22).alloc (.cells #[pO tb] 77)) (Ob.one w22.heap.size (.cells #[pO tb] 77 (0, 0))) (heap_alloc_at _) (fun k hk => by rw [List.mem_singleton.1 hk]; exact Nat.le_refl _)
              obtain ⟨bt, hbt⟩ : ∃ bt, w22.heap.size = bt := ⟨_, rfl⟩
              obtain ⟨w23, hw23⟩ : ∃ w23, w22.alloc (.cells #[pO tb] 77) = w23 := ⟨_, rfl⟩
              rw [hbt, hw23] at S
              simp only [hbt]
              rw [hw23]
              clear HS hbt hw23
              have S : Sep w w23 [Ob.one bt (.cells #[pO tb] 77 (0, 0)), oTab tb FT (dO s), Ob.one bx (.cells #[pO pb] 55 (0, 0)), oPk pb wb (.pointer none) (.pointer none), oW wb Fw false (H0 ++ b3 (dTold s)), Ob.one d1 (.deferred (some [])), oIs q3 c3 ALL, oIs q2 c2 (dD2 s), oIs q1 c1 (dD1 s), oSl 94 3 v0 (allN s).length (pcC (allN s))] := S.pick [0, 1, 2, 3, 4, 8, 12, 13, 14, 17] (by decide) rfl
              have HS := Lib.hid S
              clear S
              obtain ⟨H1, hH1⟩ : ∃ H1, H0 ++ b3 (dTold s) = H1 := ⟨_, rfl⟩
              rw [hH1] at HS hbl
              have HH1 := Lib.hid hH1
              clear hH1
              rw [← HD.out.2.2.2.2.2.2.2]
              clear hALLl
              go_wp2_with fail
              refine (rowD_walk _ _ _ w23).mono ?_
              rintro e w24 ⟨rfl, rfl⟩
              go_wp2_with fail
              have hALLl := HD.out.2.2.2.2.2.2.2
              obtain ⟨rb2, hrb⟩ : ∃ rb2, w23.heap.size = rb2 := ⟨_, rfl⟩
              obtain ⟨w24, hw24⟩ : ∃ w24, w23.alloc (bxI (.slice (some ⟨q3, 0, none⟩) ALL.length c3)) = w24 := ⟨_, rfl⟩
              have hrow24 : w24.heap[rb2]? = some (bxI (.slice (some ⟨q3, 0, none⟩) ALL.length c3)) := by rw [← hw24, ← hrb]; exact heap_alloc_at _
              have hx24 : Ext [] w23 w24 := by rw [← hw24]; exact (Ext.refl [] w23).alloc _
              rw [hrb, hw24]
              have hs24 : w24.heap.size = rb2 + 1 := by rw [← hw24, ← hrb]; simp
              have hq3b : q3 < rb2 := by rw [← hrb]; exact (oIs q3 c3 ALL).lt (HS.out.get 6 rfl) q3 (by simp [oSl, Value.ownBlock])
              have hin2 : IntsIn w24 (.slice (some ⟨q3, 0, none⟩) ALL.length c3) ALL q3 := by
                obtain ⟨h1, ao, c, he, hc, _⟩ := ints_of (HS.out.get 6 rfl)
                injection he with _ _ e3
                subst e3
                exact ⟨_, c3, rfl, hc, fun _ => ⟨0, rfl, fun i x hi => by
                  have hr := row_at (HS.out.get 6 rfl) (k := i) (by have := (List.getElem?_eq_some_iff.1 hi).1; omega)
                  rw [List.getD_eq_getElem?_getD, hi] at hr
                  rw [Nat.zero_add]
                  exact Ext.cell hx24 hr⟩⟩
              have hall15 : ∀ x ∈ ALL, 0 ≤ x ∧ x ≤ 15 := by rw [← HD.out.2.2.2.2.2.2.1]; exact HT.out.row.all15
              have S := HS.out.upd 6 (Ob.room [q3]) rfl (Ext.refl _ _) (fun g hg => .inl (by simp [Ob.room] at hg; simp [oSl, Value.ownBlock, hg])) (fun k hk => by simp at hk; omega)
              clear HS
              have HS := Lib.hid S
              have HI := Lib.hid (⟨hrow24, hx24, hs24, hq3b, hin2, hall15, hrb⟩ : _ ∧ _ ∧ _ ∧ _ ∧ _ ∧ _ ∧ _)
              clear S hrow24 hx24 hin2 hall15 hrb hw24
              refine wp_rangeA (gf := 60) (lb := #[pO rb2]) rfl (Go.Proofs.enters_of Tryz.func60 (by kernel_rfl) rfl) (row_iter (.slice (some ⟨q3, 0, none⟩) ALL.length c3) ALL rb2 q3 (by omega) (by omega) HI.out.2.2.2.2.2.1) (fun _ => rfl)
                w24.heap.size (w24.heap.size + 1) rfl rfl (by simp; omega) (by simp; omega) (fun W hx => ⟨hx.keep HI.out.1 (by simp), HI.out.2.2.2.2.1.ext hx (by simp)⟩)
                (fun pre W => ∃ Fw, Sep w W [Ob.room [w24.heap.size, w24.heap.size + 1, rb2], Ob.one bt (.cells #[pO tb] 77 (0, 0)), oTab tb FT (dO s), Ob.one bx (.cells #[pO pb] 55 (0, 0)), oPk pb wb (.pointer none) (.pointer none), oW wb Fw false (H1 ++ rowB (dO s) pre), Ob.one d1 (.deferred (some [])), Ob.room [q3], oIs q2 c2 (dD2 s), oIs q1 c1 (dD1 s), oSl 94 3 v0 (allN s).length (pcC (allN s))])
                (fun _ _ _ => False)
                (fun p A B h hx => by
                  obtain ⟨Fw, h⟩ := h
                  exact ⟨Fw, h.upd 0 (Ob.room [w24.heap.size, w24.heap.size + 1, rb2]) rfl hx (Fr.refl _ _) (fun k hk => Nat.lt_of_lt_of_le (h.get 0 rfl k hk) hx.size)⟩)
                (fun _ _ _ _ h _ => h)
                (fun W hx hw => ⟨Fw, by
                  have S := HS.out.new (HI.out.2.1.trans hx) (Ob.room [w24.heap.size, w24.heap.size + 1, rb2]) (fun k hk => by have := HI.out.2.2.1; simp at hk hw; omega) (fun k hk => by have := HI.out.2.2.1; have := HI.out.2.2.2.2.2.2; simp [Ob.room] at hk ⊢; omega)
                  rw [show rowB (dO s) [] = [] from rfl, List.append_nil]
                  exact S⟩)
                ?round ?done ?stop
              case stop => exact fun _ _ _ _ _ _ h _ => h.elim
              case round =>
                rintro pre x post W hxs ⟨Fw, S⟩ hlt
                have HS := Lib.hid S
                clear S
                obtain ⟨x1, x2, x3⟩ := x
                unfold encT
                gi_wp2_with fail
                refine ⟨(Ext.refl _ _).alloc _, fun o => ?_⟩
                have hdr : dR s = pre ++ (x1, x2, x3) :: post := by unfold dR; rw [HD.out.2.2.2.2.2.2.1, hxs]
                have htd := HT.out.row.td (x1, x2, x3) (by rw [hdr]; simp)
                have hsz := td_rng htd
                have hft := td_fit htd
                have hx7 : x2 ≤ 7 ∧ x3 < 128 := by unfold TdOk at htd; simp only at htd; omega
                have hrl : (rowB (dO s) pre).length ≤ 14 * 316 := by
                  have h := HT.out.row.len
                  rw [hdr, List.length_append] at h
                  exact Nat.le_trans (rowB_len (dO s) (fun y hy => (HT.out.row.lt.rng y hy).2) pre (fun y hy => HT.out.row.td y (by rw [hdr]; exact List.mem_append_left _ hy))) (Nat.mul_le_mul_left _ (by omega))
                obtain ⟨k, hk⟩ : ∃ k : Nat, x1 = k := ⟨x1.toNat, by simp at hsz; omega⟩
                subst hk
                simp only at hsz hft
                have hk19 : k < 19 := by omega
                have hsn : rowB (dO s) (pre ++ [((k : Int), x2, x3)]) = rowB (dO s) pre ++ cbD (dO s) k ++ bitsOf false x3 x2 := by
                  unfold rowB
                  rw [List.flatMap_append, List.append_assoc]
                  simp
                have HFT := Lib.hid (⟨hft, hrl, hsn⟩ : _ ∧ _ ∧ _)
                clear hdr htd hft hrl hsn hsz
                obtain ⟨XW, hXW⟩ : ∃ XW, W.alloc (.cells #[.int .i64 (k : Int), .int .i64 (x2 : Nat), .int .i64 (x3 : Nat)] 74) = XW := ⟨_, rfl⟩
                obtain ⟨xb, hxb⟩ : ∃ xb, W.heap.size = xb := ⟨_, rfl⟩
                have hxa : Ext [] W XW := by rw [← hXW]; exact (Ext.refl [] W).alloc _
                have hbx : XW.heap[xb]? = some (.cells #[.int .i64 (k : Int), .int .i64 (x2 : Nat), .int .i64 (x3 : Nat)] 74 (0, 0)) := by rw [← hXW, ← hxb]; exact heap_alloc_at _
                simp only [hXW, hxb]
                obtain ⟨L, hL⟩ : ∃ L, w24.heap.size + 1 = L := ⟨_, rfl⟩
                rw [hL] at hlt
                simp only [hL]
                have S := HS.out.new hxa (Ob.one xb (.cells #[.int .i64 (k : Int), .int .i64 (x2 : Nat), .int .i64 (x3 : Nat)] 74 (0, 0))) hbx (fun j hj => by rw [List.mem_singleton.1 hj, ← hxb]; exact Nat.le_refl _)
                obtain ⟨V, hV⟩ : ∃ V, XW.putObj L o = V := ⟨_, rfl⟩
                have hxv : Ext [L] XW V := by rw [← hV]; exact Ext.putObj _ _ _
                rw [hV]
                have S := S.upd 1 (Ob.room [w24.heap.size, w24.heap.size + 1, rb2]) rfl (hxv.mono (fun i _ hi => by simp at hi; simp [Ob.room]; omega)) (Fr.refl _ _) (fun j hj => Nat.lt_of_lt_of_le (HS.out.get 0 rfl j hj) (Nat.le_trans hxa.size hxv.size))
                have S := keep_start (keep_start S 1 rfl) 8 rfl
                have S : Sep w V [Ob.one xb (.cells #[.int .i64 (k : Int), .int .i64 (x2 : Nat), .int .i64 (x3 : Nat)] 74 (0, 0)), Ob.keep V [w24.heap.size, w24.heap.size + 1, rb2], Ob.one bt (.cells #[pO tb] 77 (0, 0)), oTab tb FT (dO s), Ob.one bx (.cells #[pO pb] 55 (0, 0)), oPk pb wb (.pointer none) (.pointer none), oW wb Fw false (H1 ++ rowB (dO s) pre), Ob.one d1 (.deferred (some [])), Ob.keep V [q3], oIs q2 c2 (dD2 s), oIs q1 c1 (dD1 s), oSl 94 3 v0 (allN s).length (pcC (allN s))] := S
                clear HS
                have HS := Lib.hid S
                have HLL := Lib.hid hL
                clear S hL hXW hxb hxa hbx hV hxv
                have c0 : ∀ y : Ex V, y.w.cell? ⟨xb, 0, none⟩ = some (.int .i64 (k : Int)) := fun y => cellOf (y.heap (HS.out.get 0 rfl)) 0
                have c1 : ∀ y : Ex V, y.w.cell? ⟨bt, 0, none⟩ = some (pO tb) := fun y => cellOf (y.heap (HS.out.get 2 rfl)) 0
                have c2 : ∀ y : Ex V, y.w.cell? ⟨bx, 0, none⟩ = some (pO pb) := fun y => cellOf (y.heap (HS.out.get 4 rfl)) 0
                have c3 : ∀ y : Ex V, y.w.cell? ⟨pb, 0, none⟩ = some (pO wb) := fun y => cellOf (y.heap (pk_at 5 HS.out rfl)) 0
                have d0 := cellOf (show V.heap[xb]? = some (.cells #[.int .i64 (k : Int), .int .i64 (x2 : Nat), .int .i64 (x3 : Nat)] 74 (0, 0)) from HS.out.get 0 rfl) 0
                gi_wp2_with fail
                refine rnd_quiet_tail (C := fun w' => ∃ x : Ex V, w' = x.w) 7 (by kernel_rfl) (by kernel_rfl) (by kernel_rfl) (by exact fun ⟨_, _, h⟩ => h) ⟨Ex.mk _ ((Ext.refl _ V).drew), rfl⟩ ?_
                simp only [List.take_succ_cons, List.take_zero, List.drop_succ_cons, List.drop_zero]
                repeat (go_big_quiet_step (fail))
                refine wpQuiet_nil ?_
                rintro _ ⟨y, rfl⟩
                obtain ⟨w25, hw25⟩ : ∃ w25, y.w = w25 := ⟨_, rfl⟩
                have S := HS.out.quiet y.ext
                rw [hw25] at S
                rw [hw25]
                clear HS
                have HS := Lib.hid S
                clear S c0 c1 c2 c3 d0 hw25
                go_wp2_with fail
                refine (tw 3 6 (by decide) (b := wb) k HS.out rfl rfl (TbW.of ⟨HT.out.row.lt.bad, HT.out.row.lt.kra⟩) (by have := HFT.out.2.1; rw [List.length_append]; omega)).mono ?_
                rintro e w26 ⟨_, rfl, Fw2, S⟩
                clear HS
                have S : Sep w w26 [Ob.one xb (.cells #[.int .i64 (k : Int), .int .i64 (x2 : Nat), .int .i64 (x3 : Nat)] 74 (0, 0)), Ob.keep V [w24.heap.size, w24.heap.size + 1, rb2], Ob.one bt (.cells #[pO tb] 77 (0, 0)), oTab tb FT (dO s), Ob.one bx (.cells #[pO pb] 55 (0, 0)), oPk pb wb (.pointer none) (.pointer none), oW wb Fw2 false (H1 ++ rowB (dO s) pre ++ cbD (dO s) k), Ob.one d1 (.deferred (some [])), Ob.keep V [q3], oIs q2 c2 (dD2 s), oIs q1 c1 (dD1 s), oSl 94 3 v0 (allN s).length (pcC (allN s))] := S
                have HS := Lib.hid S
                clear S
                have hcl : (cbD (dO s) k).length ≤ 15 := by rw [cbD_len]; exact getD_15 (fun x hx => by have := (HT.out.row.lt.rng x hx).2; omega) k
                have c1 : ∀ y : Ex w26, y.w.cell? ⟨xb, 1, none⟩ = some (.int .i64 (x2 : Nat)) := fun y => cellOf (y.heap (HS.out.get 0 rfl)) 1
                have c4 : ∀ y : Ex w26, y.w.cell? ⟨xb, 2, none⟩ = some (.int .i64 (x3 : Nat)) := fun y => cellOf (y.heap (HS.out.get 0 rfl)) 2
                have c2 : ∀ y : Ex w26, y.w.cell? ⟨bx, 0, none⟩ = some (pO pb) := fun y => cellOf (y.heap (HS.out.get 4 rfl)) 0
                have c3 : ∀ y : Ex w26, y.w.cell? ⟨pb, 0, none⟩ = some (pO wb) := fun y => cellOf (y.heap (pk_at 5 HS.out rfl)) 0
                go_wp2_with fail
                gi_wp2_with fail
                refine rnd_quiet_tail (C := fun w' => ∃ x : Ex w26, w' = x.w) 9 (by kernel_rfl) (by kernel_rfl) (by kernel_rfl) (by exact fun ⟨_, _, h⟩ => h) ⟨Ex.mk _ ((Ext.refl _ w26).drew), rfl⟩ ?_
                simp only [List.take_succ_cons, List.take_zero, List.drop_succ_cons, List.drop_zero]
                repeat (go_big_quiet_step (fail))
                refine wpQuiet_nil ?_
                rintro _ ⟨y, rfl⟩
                obtain ⟨w27, hw27⟩ : ∃ w27, y.w = w27 := ⟨_, rfl⟩
                have S := HS.out.quiet y.ext
                rw [hw27] at S
                rw [hw27]
                clear HS
                have HS := Lib.hid S
                clear S c1 c4 c2 c3 hw27
                go_wp2_with fail
                refine (pt 6 (b := wb) (v := x3) (n := x2) HS.out rfl (by have := HFT.out.2.1; rw [List.length_append, List.length_append]; omega) HFT.out.1 (by omega)).mono ?_
                rintro e w28 ⟨rfl, Fw3, S⟩
                clear HS
                have S : Sep w w28 [Ob.one xb (.cells #[.int .i64 (k : Int), .int .i64 (x2 : Nat), .int .i64 (x3 : Nat)] 74 (0, 0)), Ob.keep V [w24.heap.size, w24.heap.size + 1, rb2], Ob.one bt (.cells #[pO tb] 77 (0, 0)), oTab tb FT (dO s), Ob.one bx (.cells #[pO pb] 55 (0, 0)), oPk pb wb (.pointer none) (.pointer none), oW wb Fw3 false (H1 ++ rowB (dO s) pre ++ cbD (dO s) k ++ bitsOf false x3 x2), Ob.one d1 (.deferred (some [])), Ob.keep V [q3], oIs q2 c2 (dD2 s), oIs q1 c1 (dD1 s), oSl 94 3 v0 (allN s).length (pcC (allN s))] := S
                have HS := Lib.hid S
                clear S
                go_wp2_with fail
                gi_wp2_with fail
                have hL := HLL.out
                subst hL
                obtain ⟨k1, S⟩ := keep_end HS.out 1 rfl
                obtain ⟨k2, S⟩ := keep_end S 8 rfl
                refine ⟨⟨k1.size, fun j hj => ?_⟩, Fw3, ?_⟩
                · simp only [List.mem_cons, List.not_mem_nil, or_false] at hj
                  rcases hj with h | h | h | h
                  · exact k1.same j (by simp [h])
                  · exact k1.same j (by simp [h])
                  · exact k1.same j (by simp [h])
                  · exact k2.same j (by simp [h])
                · rw [HFT.out.2.2, ← List.append_assoc, ← List.append_assoc]
                  exact S.tl
              case done =>
                rintro W ⟨Fw, S⟩ hD
                obtain ⟨d2, hd2⟩ : ∃ d2, w24.heap.size = d2 := ⟨_, rfl⟩
                rw [hd2] at hD S
                simp only [hd2]
                have hdr : rowW 0 ALL = dR s := by unfold dR; rw [HD.out.2.2.2.2.2.2.1]
                rw [hdr] at S
                have S := S.upd 0 (Ob.one d2 (.deferred (some []))) rfl (Ext.refl _ _) (fun g hg => .inl (by simp [Ob.one] at hg; simp [Ob.room, hg])) hD
                have S : Sep w W [oPk pb wb (.pointer none) (.pointer none), oW wb Fw false (H1 ++ rowB (dO s) (dR s)), oIs q1 c1 (dD1 s), oIs q2 c2 (dD2 s), Ob.one d1 (.deferred (some [])), Ob.one d2 (.deferred (some [])), Ob.one bx (.cells #[pO pb] 55 (0, 0)), oSl 94 3 v0 (allN s).length (pcC (allN s))] := S.pick [4, 5, 9, 8, 6, 0, 3, 10] (by decide) rfl
                clear HS HI hD hd2 hdr
                have HS := Lib.hid S
                clear S
                have hm1 : m1 ≤ (dD1 s).length ∧ m2 ≤ (dD2 s).length := by have h := HD.out; omega
                have x0 : W.cell? ⟨bx, 0, none⟩ = some (pO pb) := cellOf (show W.heap[bx]? = some (.cells #[pO pb] 55 (0, 0)) from HS.out.get 6 rfl) 0
                have H12 := Lib.hid hm1
                clear hm1
                go_wp2_with fail
                refine (tables_walk _ _ (dT1 s) (dT2 s) pb wb HS.out 1 2 rfl rfl (fun W h => by rw [HD.out.2.2.1]; exact ints_pre h H12.out.1) (fun W h => by rw [HD.out.2.2.2.1]; exact ints_pre h H12.out.2) (codes_ok HT.out.tab1.ok) (codes_ok HT.out.tab2.ok)).mono ?_
                rintro e w30 ⟨t1, F1, t2, F2, rfl, S⟩
                clear HS x0
                have HS := Lib.hid S
                clear S
                have x0 : w30.cell? ⟨bx, 0, none⟩ = some (pO pb) := cellOf (show w30.heap[bx]? = some (.cells #[pO pb] 55 (0, 0)) from HS.out.get 8 rfl) 0
                have hB8 : H1 ++ rowB (dO s) (dR s) ++ pcsB (dT1 s) (dT2 s) (allN s) = dynB8 s := by
                  rw [← HH1.out, ← HH.out.1]
                  unfold dynB8
                  rw [show (dT1 s).length = m1 from HD.out.2.2.2.2.1, show (dT2 s).length = m2 from HD.out.2.2.2.2.2.1, HMT.out.1, HZA.out.1, HZA.out.2.1, HZA.out.2.2]
                  simp only [List.append_assoc]
                have h8 := (dynB8_facts s hs).1
                rw [← hB8, List.length_append] at h8
                have HB8 := Lib.hid (⟨hB8, h8⟩ : _ ∧ _)
                clear hB8 h8
                go_wp2_with fail
                refine (pieces_walk v0 (allN s) (dT1 s) (dT2 s) 1 0 3 2 9 HS.out (by decide) (by decide) (by decide) (by decide) rfl rfl rfl rfl rfl (fun W h => PcAt.of_own h) (TbW.of HT.out.tab1.ok) (TbW.of HT.out.tab2.ok) (by have := HB8.out.2; omega) (chk_zero (allN_chk s)).1 (by omega)).mono ?_
                rintro e w31 ⟨rfl, Fw6, S⟩
                rw [HB8.out.1, show txt (packB false (dynB8 s)) = dynN s from rfl, HRS.out]
                have S : Sep w w31 [oTab t2 F2 (dT2 s), oTab t1 F1 (dT1 s), oPk pb wb (pO t1) (pO t2), oW wb Fw6 false (H1 ++ rowB (dO s) (dR s) ++ pcsB (dT1 s) (dT2 s) (allN s)), oIs q1 c1 (dD1 s), oIs q2 c2 (dD2 s), Ob.one d1 (.deferred (some [])), Ob.one d2 (.deferred (some [])), Ob.one bx (.cells #[pO pb] 55 (0, 0)), oSl 94 3 v0 (allN s).length (pcC (allN s))] := S
                clear HS x0
                have HS := Lib.hid S
                clear S
                go_wp2_with fail
                have hd := HS.out.get 7 rfl
                refine ⟨by simp, .inl ⟨_, _, rfl, run_takeDeferred hd, ?_⟩⟩
                have S := HS.out.upd 7 (Ob.one d2 (.deferred none)) rfl (Ext.putObj w31 d2 (.deferred none)) (Fr.refl _ _) (World.putObj_heap_same (lt_of_block hd))
                have hd1 : (w31.putObj d2 (.deferred none)).heap[d1]? = some (.deferred (some [])) := S.get 6 rfl
                refine ⟨by simp, .inl ⟨_, _, rfl, run_takeDeferred hd1, ?_⟩⟩
                have S := S.upd 6 (Ob.one d1 (.deferred none)) rfl (Ext.putObj _ d1 (.deferred none)) (Fr.refl _ _) (World.putObj_heap_same (lt_of_block hd1))
                refine ⟨_, results_tmp rfl _ _ _, rfl, ?_⟩
                exact S.ext
end Go.Proofs.YtnapnaaejignaaaGreat.De
