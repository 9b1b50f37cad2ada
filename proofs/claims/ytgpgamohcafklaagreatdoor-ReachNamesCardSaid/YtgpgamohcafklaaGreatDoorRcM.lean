/-
  maps.Keys of a map with refs as keys: what its iterator promises.
-/
import Derived.Test.YtgpgamohcafklaaGreatDoorRdB
import Derived.Test.YtgpgamohcafklaaGreatDoorPkMp
import Derived.TacticsInMore
import Derived.LoopIn
import Derived.Sort.LoopGhostIn
import Derived.BigFrameIn
import Derived.BigGuardIn
namespace Go.Proofs.YtgpgamohcafklaaGreatDoor.Rc
open Go.RowKit
open Go.Proofs.YtgpgamohcafklaaGreatDoor.Tr
attribute [local go_sem] Oper.semAt_some

abbrev encR1 (r : Rf) : Array Value := #[mkR r]
/-- what may come behind what has come -/
def NxF {κ : Type} (f : κ → Option Value) (pre : List κ) (x : κ) : Prop := (f x).isSome = true ∧ x ∉ pre
/-- all has come -/
def DnF {κ : Type} (P : Program) (k : TypeId) (mk : κ → Value) (f : κ → Option Value) (xs : List κ) : Prop := ∀ x kl, keyOf P k (mk x) = some kl → (f x).isSome = true → x ∈ xs
theorem chn_nodup {κ : Type} {f : κ → Option Value} : ∀ {l : List κ}, Chn (NxF f) l → l.Nodup ∧ ∀ x ∈ l, (f x).isSome = true := by
  intro l h
  refine ⟨List.pairwise_iff_getElem.2 fun i j hi hj hij e => ?_, fun x hx => ?_⟩
  · have h1 := h (l.take j) (l[j]'hj) (l.drop (j + 1)) (by rw [← List.drop_eq_getElem_cons hj, List.take_append_drop])
    refine h1.2 ?_
    rw [← e]
    exact List.mem_take_iff_getElem.2 ⟨i, by omega, rfl⟩
  · obtain ⟨a, b, rfl⟩ := List.append_of_mem hx
    exact (h a x b rfl).1
theorem chn_perm {κ : Type} {P : Program} {k : TypeId} {mk : κ → Value} {f : κ → Option Value} {E ys : List κ} (h : Chn (NxF f) ys) (hd : DnF P k mk f ys) (hE : E.Nodup) (hm : ∀ x, (f x).isSome = true ↔ x ∈ E) (hk : ∀ x ∈ E, ∃ kl, keyOf P k (mk x) = some kl) : E.Perm ys := by
  obtain ⟨h1, h2⟩ := chn_nodup h
  refine (List.perm_ext_iff_of_nodup hE h1).2 fun x => ⟨fun hx => ?_, fun hx => (hm x).1 (h2 x hx)⟩
  obtain ⟨kl, hkl⟩ := hk x hx
  exact hd x kl hkl ((hm x).2 hx)
set_option maxHeartbeats 4000000 in
theorem keysRB_walk (mb : Nat) (w : World) :
    Calls Tryz.prog 31 #[.map (some mb)] w fun e w' => e = .returned (.func (.func 44) #[] #[.pointer (some ⟨w.heap.size, 0, none⟩)]) ∧ w' = w.alloc (.cells #[.map (some mb)] 38) := by
  go_enter Tryz.func31, Tryz.ntmps31
  go_wp2_with fail
  go_ret
  exact ⟨rfl, rfl⟩
set_option maxRecDepth 100000 in
set_option maxHeartbeats 8000000 in
theorem keysRB_iter (mb mn cb : Nat) (f : Rf → Option Value) :
    SeqM Tryz.prog 44 #[.pointer (some ⟨cb, 0, none⟩)] encR1 (NxF f) (DnF Tryz.prog 24 mkR f) (fun n => [n]) [mb]
      (fun W => W.heap[cb]? = some (.cells #[.map (some mb)] 38 (0, 0)) ∧ Mp.MapAt Tryz.prog 24 mkR W mb mn f) := by
  intro l J Jx W hb hJ hJx hY h0
  obtain ⟨hb1, hb2⟩ := hb
  obtain ⟨p, hp⟩ : ∃ p, W.heap.size = p := ⟨_, rfl⟩
  rw [hp] at hJ hJx hY
  have hmp : mb < p := by rw [← hp]; exact hb2.lt
  have H0 := Lib.hid h0
  have HY := Lib.hid hY
  have HJ := Lib.hid hJ
  have HM := Lib.hid hb2
  have c0 := cellOf hb1 0
  have HP := Lib.hid (⟨hp, hmp⟩ : _ ∧ _)
  clear h0 hY hJ hJx hb1 hb2 hp hmp
  refine callsIn_of_wp Tryz.func44 rfl trivial ?_
  simp only [Tryz.ntmps44, List.size_toArray, List.length_cons, List.length_nil, Nat.reduceAdd, Nat.reduceSub, Array.replicate_succ, Array.replicate_zero, List.push_toArray, List.append_toArray, List.nil_append, List.cons_append]
  refine wpIn_seq ?_
  refine (wpIn_wide (n := 0)).2 ?_
  go_wp2_with (first | (at_range; refine Mp.wpList_range_mp rfl _ 38 rfl 4 lawR Tryz.underlying38 rfl HM.out ?_; intro w3 cnt hrg hx3 hsz3))
  rw [HP.out.1] at hrg ⊢
  have HR0 := Lib.hid (⟨hrg, HJ.out [] W w3 H0.out hx3.weak⟩ : _ ∧ _)
  clear hrg hx3 hsz3 c0
  refine wpIn_block ?_
  gi_loopg [3] cnt (fun k v3 wr => ∃ (pre : List Rf) (left : Rf → Bool) (c : Nat), c ≤ k ∧ Mp.RangeAt Tryz.prog 24 mkR wr mb p mn f left c ∧ J pre wr ∧ (∀ x, left x = true → x ∉ pre) ∧ (∀ x, (f x).isSome = true → x ∈ pre ∨ left x = true))
  case atStart => exact ⟨[], fun x => (f x).isSome, cnt, Nat.le_refl _, HR0.out.1, HR0.out.2, fun x _ h => (by cases h), fun x h => .inr h⟩
  case round =>
    clear HR0
    obtain ⟨pre, left, c, hck, hrg, hj, hl1, hl2⟩ := hrel
    have HRG := Lib.hid (⟨hrg, hj, hl1, hl2⟩ : _ ∧ _ ∧ _ ∧ _)
    clear hrg hj hl1 hl2
    refine wpIn_seq ?_
    refine (wpIn_wide (n := 0)).2 ?_
    go_wp2_with (first | (at_next; refine Mp.wpList_next_mp rfl _ rfl lawR mkR_inj invR rfl HRG.out.1 ?_ ?_))
    · intro hc0 hl0
      have HE := Lib.hid hl0
      clear hl0
      go_wp2_with fail
      gi_wp2_with fail
      go_end0
      refine ⟨⟨_, rfl⟩, .inl ⟨pre, fun x kl hk hx => ?_, HRG.out.2.1⟩⟩
      rcases HRG.out.2.2.2 x hx with h | h
      · exact h
      · rw [HE.out x.1 x.2 kl hk] at h; cases h
    · intro r1 r2 kl v w5 c' hk hlr hfr hrg hlt hx5 hen
      obtain ⟨g, rfl⟩ : ∃ g, gk = g + 1 := ⟨gk - 1, by omega⟩
      have HE := Lib.hid (⟨hlr, hfr, hrg, HJ.out _ _ _ HRG.out.2.1 hx5⟩ : _ ∧ _ ∧ _ ∧ _)
      clear hlr hfr hrg hx5 hk
      go_wp2_with fail
      have hnx : NxF f pre (r1, r2) := ⟨by rw [HE.out.2.1]; rfl, HRG.out.2.2.1 _ HE.out.1⟩
      have hp5 : p < w5.heap.size := HE.out.2.2.1.lt
      have hx6 : Ext [] w5 (w5.alloc (.cells #[.int .i64 r1, .int .i64 r2] 24)) := (Ext.refl [] w5).alloc _
      have hm5 : mb < w5.heap.size := HE.out.2.2.1.map.lt
      have e1 := hx6.block p hp5 (by simp)
      have e2 := hx6.block mb hm5 (by simp)
      obtain ⟨fn, tmps, assign, body, hy, hR⟩ := HY.out pre (r1, r2) (w5.alloc (.cells #[.int .i64 r1, .int .i64 r2] 24)) hnx (fun k hk => by obtain rfl := List.mem_singleton.1 hk; exact Nat.lt_of_lt_of_le hp5 hx6.size) (HJ.out _ _ _ HE.out.2.2.2 hx6.weak)
      have HR := Lib.hid (⟨hR, hnx, e1, e2⟩ : _ ∧ _ ∧ _ ∧ _)
      clear hR hnx hx6 e1 e2 hp5 hm5
      gi_wp2_with fail
      refine HR.out.1.mono ?_
      clear hy hen
      rintro e w7 (⟨rfl, hj3, hk3⟩ | ⟨rfl, hj3⟩)
      · have HJ3 := Lib.hid (⟨hj3, HE.out.2.2.1.same ((hk3.same mb (by simp)).trans HR.out.2.2.2) ((hk3.same p (by simp)).trans HR.out.2.2.1)⟩ : _ ∧ _)
        clear hj3 hk3
        gi_wp2_with fail
        gi_roundg g
        case measure => omega
        case rel =>
          refine ⟨pre ++ [(r1, r2)], _, c', by omega, HJ3.out.2, HJ3.out.1, fun x hx hm => ?_, fun x hx => ?_⟩
          · simp at hx
            rcases List.mem_append.1 hm with hm | hm
            · exact HRG.out.2.2.1 x hx.1 hm
            · exact hx.2 (List.mem_singleton.1 hm)
          · by_cases he : x = (r1, r2)
            · exact .inl (by rw [he]; simp)
            · rcases HRG.out.2.2.2 x hx with h | h
              · exact .inl (List.mem_append_left _ h)
              · exact .inr (by simp [h, he])
      · have HJ3 := Lib.hid hj3
        clear hj3
        gi_wp2_with fail
        refine bodyPost_ret (results_none rfl _ _ _) rfl ?_
        exact ⟨⟨_, rfl⟩, .inr ⟨pre, r1, r2, HR.out.2.1, HJ3.out⟩⟩

set_option maxRecDepth 100000 in
set_option maxHeartbeats 8000000 in
theorem appR_walk {gf : Nat} {lb : Array Value} {Nx : List (Rf) → (Rf) → Prop} {Dn : List (Rf) → Prop} {Kb : List Nat} {St : World → Prop} (w0 w : World) (sv : Value) (n : Nat) (xs : List Value) (M : List Ob)
    (S : Sep w0 w (oSl 24 2 sv n xs :: M)) (hseq : SeqM Tryz.prog gf lb (fun x : Rf => #[mkR x]) Nx Dn (fun n => [n]) Kb St) (eg : ∀ args w, (callFunc gf args).run Tryz.prog w = .ok (.enter gf args) w) (hKb : ∀ k ∈ Kb, ∃ o ∈ M, k ∈ o.F)
    (hSt : ∀ W, Ext [] w W → St W) (hn : ∀ pre, Chn Nx pre → n + pre.length ≤ 1000000) :
    Calls Tryz.prog 51 #[sv, .func (.func gf) #[] lb] w fun e w' => ∃ v2 ys, e = .returned v2 ∧ Chn Nx ys ∧ Dn ys ∧ Sep w0 w' (oSl 24 2 v2 (n + ys.length) (xs ++ rfC ys) :: M) := by
  obtain ⟨j0, hjf, hy0, hy1, hy2⟩ := info_parts infoRef17
  have hr0 : w.ownsRow 0 24 2 sv n xs := S.get 0 rfl
  obtain ⟨sb, sc, rfl⟩ := row_slice hr0
  have HS := Lib.hid (⟨S, hn, hSt, hseq, eg, hKb⟩ : _ ∧ _ ∧ _ ∧ _ ∧ _ ∧ _)
  have S1 := S.var (T := 35) ((Ext.refl [] w).alloc (.cells #[.slice sb n sc] 35)) (heap_alloc_at _) (Nat.le_refl _)
  have HV := Lib.hid (⟨S1, hr0⟩ : _ ∧ _)
  clear S S1 hr0 hn hSt hseq eg hKb
  refine (callsIn_wide (n := 0)).1 (callsIn_of_wp_marks Tryz.func51 rfl trivial ((wpIn_wide (n := 0)).2 ?_))
  simp only [Tryz.ntmps51, List.size_toArray, List.length_cons, List.length_nil, Nat.reduceAdd, Nat.reduceSub, Array.replicate_succ, Array.replicate_zero, List.push_toArray, List.append_toArray, List.nil_append, List.cons_append]
  go_wp2_with fail
  refine wp_rangeM (gf := gf) (lb := lb) rfl HS.out.2.2.2.2.1 HS.out.2.2.2.1 (fun _ => rfl)
    (w.heap.size + 1) (w.heap.size + 2) (by simp) (by simp) [w.heap.size + 3] (by simp) (by simp) (fun k hk => by
      obtain ⟨o, ho, hko⟩ := HS.out.2.2.2.2.2 k hk
      have := o.lt (HS.out.1.each o (List.mem_cons_of_mem _ ho)) k hko
      simp; omega) (fun W hx => HS.out.2.2.1 W (((Ext.refl [] w).alloc _).trans hx))
    (fun pre W => Chn Nx pre ∧ ∃ F, Sep w0 W (oVar 24 35 2 w.heap.size F (n + pre.length) (xs ++ rfC pre) :: M) ∧ ∀ o ∈ oVar 24 35 2 w.heap.size F (n + pre.length) (xs ++ rfC pre) :: M, ∀ q ∈ o.F, q ≠ w.heap.size + 1 ∧ q ≠ w.heap.size + 2 ∧ q ≠ w.heap.size + 3) (fun _ _ _ => False)
    (fun pre A B h hx => by
      obtain ⟨hc, F, S, hf⟩ := h
      refine ⟨hc, F, S.extra hx (fun q hq => ⟨?_, fun o ho hqo => ?_⟩), hf⟩
      · have := HS.out.1.ext.size
        simp at hq; omega
      · have := hf o ho q hqo
        simp at hq; omega)
    (fun _ _ _ _ h _ => h)
    (fun W hx hw => by
      refine ⟨Chn.nil _, _, (by
        show Sep w0 W (oVar 24 35 2 w.heap.size _ n (xs ++ []) :: M)
        rw [List.append_nil]
        exact HV.out.1.quiet hx), fun o ho q hq => ?_⟩
      have hlt : q < w.heap.size + 1 := by
        rcases List.mem_cons.1 ho with rfl | ho
        · rcases List.mem_cons.1 hq with rfl | hq
          · omega
          · have := (HV.out.2.lt q (by simpa using hq)).2; omega
        · have := o.lt (HS.out.1.each o (List.mem_cons_of_mem _ ho)) q hq; omega
      omega) ?round ?done ?stop
  case stop => exact fun _ _ _ _ _ h _ => h.elim
  case round =>
    rintro pre x W hnx hts ⟨hc, F, S, hf⟩ hlt
    have hts3 : w.heap.size + 3 < W.heap.size := hts _ (by simp)
    have hnb := HS.out.2.1 _ (hc.snoc hnx)
    rw [List.length_append, List.length_singleton] at hnb
    have HR := Lib.hid (⟨hc, S, hf, hnx⟩ : _ ∧ _ ∧ _ ∧ _)
    clear hc S hf hnx hts
    obtain ⟨x1, x2⟩ := x
    gi_wp2_with fail
    refine ⟨(Ext.refl _ _).alloc _, fun o => ?_⟩
    obtain ⟨XW, hXW⟩ : ∃ XW, W.alloc (.cells #[.int .i64 x1, .int .i64 x2] 24) = XW := ⟨_, rfl⟩
    obtain ⟨xb, hxb⟩ : ∃ xb, W.heap.size = xb := ⟨_, rfl⟩
    have hxa : Ext [] W XW := by rw [← hXW]; exact (Ext.refl [] W).alloc _
    have hbx : XW.heap[xb]? = some (.cells #[.int .i64 x1, .int .i64 x2] 24 (0, 0)) := by rw [← hXW, ← hxb]; exact heap_alloc_at _
    simp only [hXW, hxb]
    obtain ⟨L, hL⟩ : ∃ L, w.heap.size + 2 = L := ⟨_, rfl⟩
    rw [hL] at hlt
    simp only [hL]
    obtain ⟨V, hV⟩ : ∃ V, XW.putObj L o = V := ⟨_, rfl⟩
    have hxv : Ext [L] XW V := by rw [← hV]; exact Ext.putObj _ _ _
    rw [hV]
    have SV := (HR.out.2.1.quiet hxa).extra hxv (fun q hq => by
      obtain rfl := List.mem_singleton.1 hq
      exact ⟨by have := HS.out.1.ext.size; omega, fun o ho hqo => by have := HR.out.2.2.1 o ho _ hqo; omega⟩)
    have hbV := hxv.keep hbx (by simp; omega)
    obtain ⟨v, hvb, hvr, hvF, hvn⟩ := (SV.get 0 rfl : (oVar 24 35 2 w.heap.size F (n + pre.length) (xs ++ rfC pre)).P V)
    obtain ⟨vb, vc, rfl⟩ := row_slice hvr
    have hVs : W.heap.size ≤ V.heap.size := Nat.le_trans hxa.size hxv.size
    have b0 := cellOf hbV 0
    have b1 := cellOf hbV 1
    have a0 := cellOf hvb 0
    have f0 := freeOf hvb 0
    obtain ⟨pl, hpl⟩ : ∃ pl, n + pre.length = pl := ⟨_, rfl⟩
    obtain ⟨PR, hPR⟩ : ∃ PR, xs ++ rfC pre = PR := ⟨_, rfl⟩
    rw [hpl] at SV hvb hvr hvF hvn a0
    rw [hPR] at SV hvr
    have hplb : pl + 1 ≤ 1000000 := by omega
    have HK := Lib.hid (⟨SV, hvb, hvr, hvF, hvn, hpl, hL, hts3, hVs, hlt, hPR⟩ : _ ∧ _ ∧ _ ∧ _ ∧ _ ∧ _ ∧ _ ∧ _ ∧ _ ∧ _ ∧ _)
    clear SV hvb hvr hvF hvn hpl hL hts3 hVs hlt hxa hbx hxv hbV hV hXW hxb hnb hPR
    gi_wp2_with (refine wpListIn_hid (fun ⟨_, _, h⟩ => h) rfl ?_)
    refine Lib.hid ?_
    go_wp2_with (first | (at_builtin; refine wpList_append_lies _ rfl _ _ 35 rfl 0 24 j0 _ 2 16 Tryz.underlying35 hjf hy0 hy1 hy2 rfl (by decide) (.slice vb pl vc) pl _ rfl (World.ownsRow.alloc HK.out.2.2.1 _) ⟨V.heap.size, 0, none⟩ 1 1 [.int .i64 x1, .int .i64 x2] rfl rfl (World.news_of_block (heap_alloc_at (w := V) _)) (by simp [Value.oneCell']) (by decide) (by unfold maxLen; omega) (by omega) (by omega) (V.heap.size + 1) (by simp) ?_; intro g6 cap2 w9 hown1 hgrow hat6 hlt6; have hb9 := grown_keep hgrow (heap_alloc_old _ HK.out.2.1) HK.out.2.2.2.2.1; have e9 := cellOf hb9 0; have f9 := freeOf hb9 0; have HG := Lib.hid (⟨hown1, hgrow, hat6⟩ : _ ∧ _ ∧ _); clear hown1 hgrow hat6 hlt6 hb9 a0 f0))
    gi_wp2_with fail
    obtain ⟨hP1, hP2, hP3⟩ := Sep.push HK.out.1 HK.out.2.1 HK.out.2.2.2.1 HK.out.2.2.2.2.1 HG.out.1 HG.out.2.1 HG.out.2.2
    obtain ⟨-, -, -, -, -, hpl, hL, hts3, hVs, hlt, hPR⟩ := HK.out
    have hF0 : ∀ q ∈ F, q ≠ w.heap.size + 1 ∧ q ≠ w.heap.size + 2 ∧ q ≠ w.heap.size + 3 := fun q hq => HR.out.2.2.1 _ (List.mem_cons_self ..) q hq
    have hlen : n + (pre ++ [(x1, x2)]).length = pl + 1 := by rw [List.length_append, List.length_singleton]; omega
    have hrow : xs ++ rfC (pre ++ [(x1, x2)]) = PR ++ [.int .i64 x1, .int .i64 x2] := by rw [rfC_append, ← List.append_assoc, hPR]; rfl
    refine ⟨KeepsT.of_ext hP2 (fun q hq => ?_), HR.out.1.snoc HR.out.2.2.2, [w.heap.size, g6], by rw [hlen, hrow]; exact hP1, ?_⟩
    · simp only [List.mem_cons, List.cons_append, List.nil_append] at hq
      have hq2 : q = w.heap.size + 1 ∨ q = L ∨ q = w.heap.size + 3 ∨ q ∈ Kb := by rcases hq with h | h | h | h <;> simp [h]
      rcases hq2 with rfl | rfl | rfl | hq
      · exact ⟨by omega, fun h => (hF0 _ h).1 rfl⟩
      · exact ⟨by omega, fun h => (hF0 _ h).2.1 hL.symm⟩
      · exact ⟨by omega, fun h => (hF0 _ h).2.2 rfl⟩
      · obtain ⟨ob, hob, hqo⟩ := HS.out.2.2.2.2.2 q hq
        obtain ⟨j, hj⟩ := List.getElem?_of_mem hob
        exact ⟨ob.lt (HK.out.1.each ob (List.mem_cons_of_mem _ hob)) q hqo, fun h => HK.out.1.apart 0 (j + 1) _ _ rfl hj (by omega) q h hqo⟩
    · intro ob hob q hq
      rcases List.mem_cons.1 hob with rfl | hob
      · rcases List.mem_cons.1 hq with rfl | hq
        · omega
        · obtain rfl := List.mem_singleton.1 hq
          rcases hP3 q (by simp) with h | h
          · have := hF0 q h; omega
          · omega
      · have := HR.out.2.2.1 ob (List.mem_cons_of_mem _ hob) q hq; omega
  case done =>
    rintro ys W hdn ⟨hc, F, S, hf⟩ hD
    obtain ⟨v, hvb, hvr, hvF, hvn⟩ := (S.get 0 rfl : (oVar 24 35 2 w.heap.size F (n + ys.length) (xs ++ rfC ys)).P W)
    have hfin := S.unvar hvb
    obtain ⟨vb, vc, rfl⟩ := row_slice hvr
    have a0 := cellOf hvb 0
    have HF := Lib.hid (⟨hfin, hdn, hc, hf, hD, hvF⟩ : _ ∧ _ ∧ _ ∧ _ ∧ _ ∧ _)
    clear hfin hdn hc S hf hD hvb hvr hvF hvn
    go_wp2_with fail
    refine ⟨by simp, .inl ⟨_, _, rfl, run_takeDeferred HF.out.2.2.2.2.1, ?_⟩⟩
    refine ⟨_, results_tmp rfl _ _ _, ?_⟩
    refine ⟨_, ys, rfl, HF.out.2.2.1, HF.out.2.1, HF.out.1.extra (Ext.putObj _ _ _) (fun q hq => ?_)⟩
    obtain rfl := List.mem_singleton.1 hq
    refine ⟨by have := HS.out.1.ext.size; omega, fun o ho hqo => ?_⟩
    rcases List.mem_cons.1 ho with rfl | ho
    · exact (HF.out.2.2.2.1 _ (List.mem_cons_self ..) _ (by rw [show (oVar 24 35 2 w.heap.size F (n + ys.length) (xs ++ rfC ys)).F = F from rfl, HF.out.2.2.2.2.2]; exact List.mem_cons_of_mem _ hqo)).1 rfl
    · exact (HF.out.2.2.2.1 o (List.mem_cons_of_mem _ ho) _ hqo).1 rfl
end Go.Proofs.YtgpgamohcafklaaGreatDoor.Rc
