/-
 Texts PmA, as far as the statement needs them.
-/
import Derived.Test.YtljachhmdogkdaaGreatDoorQPt
import Derived.Test.YtljachhmdogkdaaGreatDoorQPy
import Derived.Deep.CutRange
set_option maxRecDepth 100000
set_option maxHeartbeats 64000000
namespace Go.Proofs.YtljachhmdogkdaaGreatDoor
namespace So
def ltOf' (x y:Os):Bool:=decide (x.num<y.num)
end So
namespace Pg
open Go.RowKit
open Tr
open Rc
theorem sizeGraph:(Tryz.prog.info? 26).map (·.size)=some 3:=by kernel_rfl
theorem wp_store_mp {κ:Type} {P:Program} {k:TypeId} {mk:κ→Value} {w:World} {b n:Nat} {f:κ→Option Value} [DecidableEq κ] {o:Oper} {a:Act} {Q:Exit→Act→World→Prop} {K' : Act→World→Prop} (m x v:Operand) (t:TypeId) (hop:o.op=Op.mapUpdate t m x v)
  (e:TypeId) (K:Maps.Keyed P k) (hmk:∀ x y,mk x=mk y→x=y) (ht:P.underlying t=some (.map k e)) (hm:a.eval m=.map (some b)) (h:Mp.MapAt P k mk w b n f) (hn:n<maxLen) (y:κ) (val:Value) (kl:Lit) (hx:a.eval x=mk y) (hv:a.eval v=val) (hkey:keyOf P k (mk y)=some kl)
  (hK:∀ w',Mp.MapAt P k mk w' b (n+1) (fun q=>if q=y then some val else f q)→Ext [b] w w'→K' (a.put o.dst undef) w'):o.wp P a w K' Q:=by
 obtain⟨w',hrun,r1,r2⟩:=h.store K hmk ht hn hkey val
 unfold Oper.wp
 simp [execOp,hop,hm,hx,hv,hrun,Result.andThen]
 exact hK w' r1 r2
theorem row_of_cells {w:World} {g n cap:Nat} {E:List Rf} (hl:E.length=n) (h:So.Cells w 2 So.encN (.slice (some ⟨g,0,none⟩) n cap) E):RowAt w (.slice (some ⟨g,0,none⟩) n cap) E:=by
 obtain⟨base,c2,he,-,hT⟩:=h
 have e1:(some ⟨g,0,none⟩:Option Addr)=base:=by injection he
 subst e1
 refine⟨_,cap,by rw [hl],fun i u hu=>⟨g,rfl,?_⟩⟩
 have hi:i<E.length*2:=by rw [←rfC_len2]; exact (List.getElem?_eq_some_iff.1 hu).1
 have key:∀ q (hq:q<E.length),∀ c x,(So.encN (E[q]'hq))[c]? = some x→w.cell? ⟨g,q*2+c,none⟩=some x:=fun q hq c x hcx=>by
  obtain⟨b,o,hb,hx⟩:=hT q hq
  obtain⟨rfl,rfl⟩:b=g∧o=0:=by
   have:=Option.some.inj hb
   injection this with h1 h2
   exact⟨h1.symm,h2.symm⟩
  have:=hx c x hcx
  rwa [Nat.zero_add] at this
 have hm:(∃ q,i=q*2)∨(∃ q,i=q*2+1):=by
  rcases Nat.mod_two_eq_zero_or_one i with h | h
  ·exact .inl ⟨i / 2,by omega⟩
  ·exact .inr ⟨i / 2,by omega⟩
 rcases hm with ⟨q,rfl⟩ | ⟨q,rfl⟩
 ·have hq:q<E.length:=by omega
  rw [(rfC_at E q hq).1] at hu
  rw [←Option.some.inj hu]
  exact key q hq 0 _ rfl
 ·have hq:q<E.length:=by omega
  rw [(rfC_at E q hq).2] at hu
  rw [←Option.some.inj hu]
  exact key q hq 1 _ rfl
theorem infoNote28:(Tryz.prog.info? 47).map (fun i=>(i.zero,i.size,i.bytes))=some (some (.agg #[.int .i64 0,.int .i64 0]),2,16):=by kernel_rfl
theorem le_maxN:∀ (l:List Int) (m:Int),m≤maxN l m
 | [],m=>Int.le_refl _
 | x::l,m=>by
  have:=le_maxN l (max m x)
  unfold maxN at this ⊢
  rw [List.foldl_cons]
  omega
theorem most_pos (root:Rf) (L:List Om):0≤mostN root L:=Int.le_trans (le_maxN _ 0) (le_maxN _ _)
def MendPost (w:World) (v:Value) (root:Rf) (L:List Om) (A:List Rf) (e:Ending) (w' : World):Prop:=
 ∃ v2 r0 r1 nv ML NT F,e=.returned (.tuple #[.agg #[v2,.int .i64 r0,.int .i64 r1],nv])∧MendIs root L A ML (r0,r1) NT∧∃ FN,Sep w w' [oAny FN (fun W=>RowAt W nv NT),oAny F (fun W=>OmsAt W v L→OmsAt W v2 ML)]
theorem post_same {w W:World} {v:Value} {root:Rf} {L:List Om} {A:List Rf} (hx:Ext [] w W) (h:sameM root L A=true):MendPost w v root L A (.returned (.tuple #[.agg #[v,.int .i64 root.1,.int .i64 root.2],.slice none 0 0])) W:=
 ⟨v,root.1,root.2,_,L,[],[],rfl,.inl ⟨h,rfl,rfl,rfl⟩,[],(((Sep.start w).quiet hx).new (Ext.refl _ _) (oAny [] (fun W=>OmsAt W v L→OmsAt W v L)) (oAny.start W (fun V h=>h)) (fun q hq=>by cases hq)).new (Ext.refl _ _) (oAny [] (fun W=>RowAt W (.slice none 0 0) [])) (oAny.start W (fun V=>⟨none,0,rfl,fun i u h=>by simp [rfC] at h⟩)) (fun q hq=>by cases hq)⟩
theorem mend_walk (v:Value) (L:List Om) (root:Rf) (ov:Value) (A:List Rf) (w:World) (h:OmsAt w v L) (hwf:∀ x∈L,OmWf x) (hr:RfWf root) (hC:∀ x∈L,cntE x.tree≤900) (hl:L.length≤1000) (ho:RowAt w ov A) (har:∀ r∈A,RfWf r) (hal:A.length≤1000) (hm:mostN root L≤1000000000) :
  Calls Tryz.prog 5 #[.agg #[v,.int .i64 root.1,.int .i64 root.2],ov] w (MendPost w v root L A):=by
 have hmm:=@run_makeMap Tryz.prog
 obtain⟨m0,m1⟩:=root
 obtain⟨vb,vc,hvb⟩:∃ b c,v=.slice b L.length c:=by obtain⟨b,c,e,-⟩:=h; exact⟨b,c,e⟩
 obtain⟨vn,hvn⟩:∃ n,L.length=n:=⟨_,rfl⟩
 rw [hvn] at hvb
 subst hvb
 have HAs:=zz (fun W (hx:Ext [] w W)=>asked_at (.slice vb vn vc) L (m0,m1) W (h.ext hx) hwf hl)
 have HSt:=zz (fun W (hx:Ext [] w W)=>strict_walk (.slice vb vn vc) L m0 m1 W (h.ext hx) hwf (by omega))
 have HCk:=zz (fun W (hx:Ext [] w W)=>check28_walk (.slice vb vn vc) L (m0,m1) W (h.ext hx) hwf hr (by omega))
 have HAb:=zz (fun W (hx:Ext [] w W)=>above_walk (.slice vb vn vc) L (m0,m1) W (h.ext hx) hwf hr (by omega) (by omega))
 have HRo:=zz (fun mb W hA=>root_walk (.slice vb vn vc) m0 m1 mb L.length L W ⟨_,_,_,rfl⟩ hA hr)
 have HGw:=zz (fun mb W hA=>gwalk_loop L vb vn vc m0 m1 mb L.length W hA hr hC hl)
 have HOr:=zz (fun mb wv wk W hA (hx:Ext [] w W) hk hkr hkl=>orphans_walk L vb vn vc m0 m1 mb L.length wv ov wk A W hA (h.ext hx) hwf hk hkr (ho.ext hx) har hl hkl hal)
 have HH:=zz7 ⟨h,hwf,hr,hC,hl,hvn,hm⟩
 obtain⟨ob,oc,hov,-⟩:=ho
 obtain⟨an,han⟩:∃ n,A.length=n:=⟨_,rfl⟩
 rw [han] at hov
 subst hov
 have hP1:=zz (fun W (hx:Ext [] w W) h=>post_same (v:=.slice vb vn vc) (root:=(m0,m1)) (L:=L) (A:=A) hx h)
 obtain⟨PO,hPO⟩:∃ PO,MendPost w (.slice vb vn vc) (m0,m1) L A=PO:=⟨_,rfl⟩
 rw [hPO] at hP1 ⊢
 have HPO:=zz hPO
 dsimp only at HAs HSt HCk HAb HRo HGw HOr hP1 ⊢
 clear h hwf hr hC hl hvn har hal han hm hPO
 obtain⟨b2,hb2⟩:∃ p,w.heap.size=p:=⟨_,rfl⟩
 obtain⟨W1,hW1⟩:∃ W,(w.alloc (.cells #[.slice vb vn vc,.int .i64 m0,.int .i64 m1] 26)).alloc (.cells #[.slice none 0 0,.int .i64 0,.int .i64 0] 26)=W:=⟨_,rfl⟩
 have hx1:Ext [] w W1:=by rw [←hW1]; exact ((Ext.refl [] w).alloc _).alloc _
 have hc2:W1.heap[b2]? = some (.cells #[.slice vb vn vc,.int .i64 m0,.int .i64 m1] 26 (0,0)):=by rw [←hW1,←hb2]; exact heap_alloc_old _ (heap_alloc_at _)
 have hc4:W1.heap[b2+1]? = some (.cells #[.slice none 0 0,.int .i64 0,.int .i64 0] 26 (0,0)):=by
  have:=heap_alloc_at (w:=w.alloc (.cells #[.slice vb vn vc,.int .i64 m0,.int .i64 m1] 26)) (.cells #[.slice none 0 0,.int .i64 0,.int .i64 0] 26)
  rw [show (w.alloc (.cells #[.slice vb vn vc,.int .i64 m0,.int .i64 m1] 26)).heap.size=b2+1 from by simp [hb2],hW1] at this
  exact this
 have S1:Sep w W1 [Ob.one (b2+1) (.cells #[.slice none 0 0,.int .i64 0,.int .i64 0] 26 (0,0)),Ob.one b2 (.cells #[.slice vb vn vc,.int .i64 m0,.int .i64 m1] 26 (0,0))]:=
  ((Sep.start w).new hx1 (Ob.one b2 (.cells #[.slice vb vn vc,.int .i64 m0,.int .i64 m1] 26 (0,0))) hc2 (fun k hk=>by
   obtain rfl:k=b2:=by simpa [Ob.one] using hk
   omega)) |> fun S=>⟨S.ext,fun o ho=>by
    rcases List.mem_cons.1 ho with rfl | ho
    ·exact hc4
    ·exact S.each o ho,fun o ho q hq=>by
    rcases List.mem_cons.1 ho with rfl | ho
    ·obtain rfl:q=b2+1:=by simpa [Ob.one] using hq
     omega
    ·exact S.base o ho q hq,fun i j a b hi hj hij q hq hq2=>by
    match i,j,hi,hj with
    | 0,0,_,_=>exact hij rfl
    | 1,1,_,_=>exact hij rfl
    | 0,1,hi,hj=>
     obtain rfl:=Option.some.inj hi
     obtain rfl:=Option.some.inj hj
     simp [Ob.one] at hq hq2
     omega
    | 1,0,hi,hj=>
     obtain rfl:=Option.some.inj hi
     obtain rfl:=Option.some.inj hj
     simp [Ob.one] at hq hq2
     omega
    | i+2,_,hi,_=>cases hi
    | _,j+2,_,hj=>cases hj⟩
 have HS1:=zz2 ⟨S1,hx1⟩
 have q0:W1.cell? ⟨b2,0,none⟩=some (.slice vb vn vc):=cellOf hc2 0
 have q1:W1.cell? ⟨b2,1,none⟩=some (.int .i64 m0):=cellOf hc2 1
 have q2:W1.cell? ⟨b2,2,none⟩=some (.int .i64 m1):=cellOf hc2 2
 clear S1 hx1 hc2 hc4
 go_enter Tryz.func5,Tryz.ntmps5
 go_upto_region 1 with fail
 refine gen_world (fun V hV=>?_)
 obtain rfl:W1=V:=by first | exact hV | exact hW1.symm.trans hV
 (try rw [hb2])
 clear hV hW1 hb2
 go_wp2_with fail
 refine (HAs.out _ HS1.out.2).mono ?_
 rintro e w2 ⟨mb,rfl,S2,hA2⟩
 have S3:Sep w w2 [Mp.oMp Tryz.prog 24 mkR mb L.length (idxF L),Ob.one (b2+1) (.cells #[.slice none 0 0,.int .i64 0,.int .i64 0] 26 (0,0)),Ob.one b2 (.cells #[.slice vb vn vc,.int .i64 m0,.int .i64 m1] 26 (0,0))]:=sep_cat HS1.out.1 S2
 have HS3:=zz2 ⟨S3,hA2.nodes⟩
 clear S3 S2 hA2 HAs HS1 q0 q1 q2
 go_upto_region 2 with fail
 refine gen_world (fun W3 hW3=>?_)
 obtain⟨b6,hb6⟩:∃ p,w2.heap.size=p:=⟨_,rfl⟩
 (try rw [hb6])
 have hx3:Ext [] w2 W3:=by rw [←hW3]; exact (Ext.refl [] w2).alloc _
 have hc6:W3.heap[b6]? = some (.cells #[.slice vb vn vc,.int .i64 m0,.int .i64 m1,.map (some mb)] 62 (0,0)):=by rw [←hW3,←hb6]; exact heap_alloc_at _
 have S4:=HS3.out.1.new hx3 (Ob.one b6 (.cells #[.slice vb vn vc,.int .i64 m0,.int .i64 m1,.map (some mb)] 62 (0,0))) hc6 (fun k hk=>by
  obtain rfl:k=b6:=by simpa [Ob.one] using hk
  omega)
 have h2:W3.heap[b2]? = some (.cells #[.slice vb vn vc,.int .i64 m0,.int .i64 m1] 26 (0,0)):=S4.get 3 rfl
 have q0:W3.cell? ⟨b2,0,none⟩=some (.slice vb vn vc):=cellOf h2 0
 have q1:W3.cell? ⟨b2,1,none⟩=some (.int .i64 m0):=cellOf h2 1
 have q2:W3.cell? ⟨b2,2,none⟩=some (.int .i64 m1):=cellOf h2 2
 have HS4:=zz S4
 clear S4 HS3 hx3 hc6 hW3 hb6 h2
 obtain⟨sN,hsN⟩:∃ s,strictN L=s:=⟨_,rfl⟩
 rw [hsN] at HSt
 have HSN:=zz hsN
 clear hsN
 go_wp2_with fail
 refine (HSt.out _ HS4.out.ext).mono ?_
 rintro e w4 ⟨rfl,hx4⟩
 have S5:=HS4.out.quiet hx4
 have h2:w4.heap[b2]? = some (.cells #[.slice vb vn vc,.int .i64 m0,.int .i64 m1] 26 (0,0)):=S5.get 3 rfl
 have h4:w4.heap[b2+1]? = some (.cells #[.slice none 0 0,.int .i64 0,.int .i64 0] 26 (0,0)):=S5.get 2 rfl
 have h6:w4.heap[b6]? = some (.cells #[.slice vb vn vc,.int .i64 m0,.int .i64 m1,.map (some mb)] 62 (0,0)):=S5.get 0 rfl
 have q0:w4.cell? ⟨b2,0,none⟩=some (.slice vb vn vc):=cellOf h2 0
 have q1:w4.cell? ⟨b2,1,none⟩=some (.int .i64 m0):=cellOf h2 1
 have q2:w4.cell? ⟨b2,2,none⟩=some (.int .i64 m1):=cellOf h2 2
 have HS5:=zz2 ⟨S5,h4⟩
 clear S5 hx4 HS4 HSt h2
 by_cases hs0:sN=0
 case neg=>
  have hsb:(sN != 0)=true:=bne_iff_ne.2 hs0
  have r0:=cellOf h4 0
  have r1:=cellOf h4 1
  have r2:=cellOf h4 2
  have f0:=freeOf h4 0
  have f1:=freeOf h4 1
  have f2:=freeOf h4 2
  have HN:=zz (by unfold sameM; rw [HSN.out,hsb]; rfl:sameM (m0,m1) L A=true)
  clear h4 h6
  go_wp2_with fail
  refine bodyPost_ret (results_row_tmp rfl _ _ (b2+1) 26 #[.slice vb vn vc,.int .i64 m0,.int .i64 m1] (0,0) _ rfl (heap_setCell_same (heap_setCell_same (heap_setCell_same HS5.out.2 _) _) _) Tryz.underlying26 rfl sizeGraph) rfl ?_
  exact hP1.out _ ((HS5.out.1).ext.trans' (((((Ext.refl [b2+1] w4).setCell ⟨b2+1,0,none⟩ _ (by simp)).setCell ⟨b2+1,1,none⟩ _ (by simp)).setCell ⟨b2+1,2,none⟩ _ (by simp))) (fun k hlt hk=>by
   obtain rfl:=List.mem_singleton.1 hk
   exact absurd hlt (Nat.not_lt.2 ((HS5.out.1).base (Ob.one (b2+1) (.cells #[.slice none 0 0,.int .i64 0,.int .i64 0] 26 (0,0))) (by simp) _ (by simp [Ob.one]))))) HN.out
 subst hs0
 have k0:w4.cell? ⟨b6,0,none⟩=some (.slice vb vn vc):=cellOf h6 0
 have k1:w4.cell? ⟨b6,1,none⟩=some (.int .i64 m0):=cellOf h6 1
 have k2:w4.cell? ⟨b6,2,none⟩=some (.int .i64 m1):=cellOf h6 2
 have k3:w4.cell? ⟨b6,3,none⟩=some (.map (some mb)):=cellOf h6 3
 have hA4:AskAt w4 mb L.length L:=⟨HS5.out.1.get 1 rfl,oms_nodes (HH.out.1.ext HS5.out.1.ext),HH.out.2.1⟩
 have HW:=zz (HGw.out mb w4 hA4)
 clear hA4 h4 h6 HGw q0 q1 q2
 go_wp2_with fail
 refine HW.out.mono ?_
 rintro e w5 ⟨v5,out,F,rfl,hout,S6⟩
 have hQ:StQ L [] out w5:=oAny.now (S6.get 1 rfl)
 have hO:OmsAt w5 v5 out:=oms_of_row (S6.get 0 rfl) (hQ.2 (oms_nodes (HH.out.1.ext (HS5.out.1.ext.trans S6.ext))))
 have S7:Sep w w5 [oSl 35 5 v5 out.length (omsC out),oAny F (StQ L [] out),Ob.one b6 (.cells #[.slice vb vn vc,.int .i64 m0,.int .i64 m1,.map (some mb)] 62 (0,0)),Mp.oMp Tryz.prog 24 mkR mb L.length (idxF L),Ob.one (b2+1) (.cells #[.slice none 0 0,.int .i64 0,.int .i64 0] 26 (0,0)),Ob.one b2 (.cells #[.slice vb vn vc,.int .i64 m0,.int .i64 m1] 26 (0,0))]:=sep_cat HS5.out.1 S6
 have hOr:=HOr.out mb v5 out w5 ⟨S7.get 3 rfl,oms_nodes (HH.out.1.ext S7.ext),HH.out.2.1⟩ S7.ext hO (key_wf HH.out.2.1 hout) (by have:=out_len hout; have:=HH.out.2.2.2.2.1; omega)
 have hk:loneN L (keysO out) A=loneM (m0,m1) L A:=by rw [loneM,←hout,keysO_bare]
 rw [hk] at hOr
 obtain⟨R,hR⟩:∃ R,loneM (m0,m1) L A=R:=⟨_,rfl⟩
 rw [hR] at hOr
 have HO:=zz hOr
 have h6:w5.heap[b6]? = some (.cells #[.slice vb vn vc,.int .i64 m0,.int .i64 m1,.map (some mb)] 62 (0,0)):=S7.get 2 rfl
 have k0:w5.cell? ⟨b6,0,none⟩=some (.slice vb vn vc):=cellOf h6 0
 have k1:w5.cell? ⟨b6,1,none⟩=some (.int .i64 m0):=cellOf h6 1
 have k2:w5.cell? ⟨b6,2,none⟩=some (.int .i64 m1):=cellOf h6 2
 have k3:w5.cell? ⟨b6,3,none⟩=some (.map (some mb)):=cellOf h6 3
 obtain⟨ob5,oc5,rfl⟩:=row_slice (S6.get 0 rfl:w5.ownsRow 0 35 5 v5 out.length (omsC out))
 obtain⟨on,hon⟩:∃ n,out.length=n:=⟨_,rfl⟩
 have hob:on≤1000:=by have:=out_len hout; have:=HH.out.2.2.2.2.1; omega
 rw [hon] at S7 HO ⊢
 have HS7:=zz4 ⟨S7,hout,hR,hon⟩
 clear S7 S6 hQ hO hOr hk hR h6 hout HW HS5 HOr hon
 go_wp2_with fail
 refine HO.out.mono ?_
 rintro e w6 ⟨v6,rfl,S8⟩
 have S9:Sep w w6 [oSl 24 2 v6 R.length (rfC R),oSl 35 5 (.slice ob5 on oc5) on (omsC out),oAny F (StQ L [] out),Ob.one b6 (.cells #[.slice vb vn vc,.int .i64 m0,.int .i64 m1,.map (some mb)] 62 (0,0)),Mp.oMp Tryz.prog 24 mkR mb L.length (idxF L),Ob.one (b2+1) (.cells #[.slice none 0 0,.int .i64 0,.int .i64 0] 26 (0,0)),Ob.one b2 (.cells #[.slice vb vn vc,.int .i64 m0,.int .i64 m1] 26 (0,0))]:=sep_cat HS7.out.1 S8
 obtain⟨lb,lc,rfl⟩:=row_slice (S8.get 0 rfl:w6.ownsRow 0 24 2 v6 R.length (rfC R))
 obtain⟨rn,hrn⟩:∃ n,R.length=n:=⟨_,rfl⟩
 rw [hrn] at S9 ⊢
 have HS9:=zz2 ⟨S9,hrn⟩
 clear S9 S8 HO k0 k1 k2 k3 hrn
 go_upto_region 6 with fail
 have hB:sameM (m0,m1) L A=(decide (rn=0)&&(checkP (m0,m1) L==0)):=by
  have:(loneM (m0,m1) L A).isEmpty=decide (rn=0):=by
   rw [HS7.out.2.2.1,←HS9.out.2]
   cases R <;> simp
  unfold sameM
  rw [HSN.out,this]
  simp
 obtain⟨ck,hck⟩:∃ c,checkP (m0,m1) L=c:=⟨_,rfl⟩
 rw [hck] at hB HCk
 clear hck
 have hc2:w6.heap[b2]? = some (.cells #[.slice vb vn vc,.int .i64 m0,.int .i64 m1] 26 (0,0)):=HS9.out.1.get 6 rfl
 have q0:w6.cell? ⟨b2,0,none⟩=some (.slice vb vn vc):=cellOf hc2 0
 have q1:w6.cell? ⟨b2,1,none⟩=some (.int .i64 m0):=cellOf hc2 1
 have q2:w6.cell? ⟨b2,2,none⟩=some (.int .i64 m1):=cellOf hc2 2
 have HB:=zz hB
 clear hc2 hB
 go_cut [47] from 40 to 47 (fun c47 wx=>c47=.bool (decide (rn=0)&&(ck==0))∧Ext [] w6 wx)
 case first=>
  by_cases h0:rn=0
  ·have HC2:=zz (HCk.out w6 HS9.out.1.ext)
   subst h0
   clear HCk
   go_wp2_with fail
   refine HC2.out.mono ?_
   rintro e w7 ⟨rfl,hx7⟩
   have HX:=zz hx7
   clear hx7 HC2 q0 q1 q2
   go_wp2_with fail
   go_meet
   exact⟨by simp,HX.out⟩
  ·have h1:((rn:Int)==0)=false:=by simpa using h0
   have h2:¬ (rn:Int)=0:=by omega
   clear q0 q1 q2
   go_wp2_with fail
   go_meet
   exact⟨by simp [h0],Ext.refl _ _⟩
 case rest=>
 obtain⟨rfl,hx7⟩:=hcut
 obtain⟨B,hBB⟩:∃ B,(decide (rn=0)&&(ck==0))=B:=⟨_,rfl⟩
 rw [hBB]
 have hB:=HB.out
 rw [hBB] at hB
 have S0:=HS9.out.1.quiet hx7
 have hc2:wc.heap[b2]? = some (.cells #[.slice vb vn vc,.int .i64 m0,.int .i64 m1] 26 (0,0)):=S0.get 6 rfl
 have hc4:wc.heap[b2+1]? = some (.cells #[.slice none 0 0,.int .i64 0,.int .i64 0] 26 (0,0)):=S0.get 5 rfl
 have q0:wc.cell? ⟨b2,0,none⟩=some (.slice vb vn vc):=cellOf hc2 0
 have q1:wc.cell? ⟨b2,1,none⟩=some (.int .i64 m0):=cellOf hc2 1
 have q2:wc.cell? ⟨b2,2,none⟩=some (.int .i64 m1):=cellOf hc2 2
 have HS0:=zz2 ⟨S0,hc4⟩
 have HB2:=zz hB
 clear hB HB hBB HCk hx7 S0 hc2
 cases B with
 | true=>
  have r0:=cellOf hc4 0
  have r1:=cellOf hc4 1
  have r2:=cellOf hc4 2
  have f0:=freeOf hc4 0
  have f1:=freeOf hc4 1
  have f2:=freeOf hc4 2
  clear hc4
  go_wp2_with fail
  refine bodyPost_ret (results_row_tmp rfl _ _ (b2+1) 26 #[.slice vb vn vc,.int .i64 m0,.int .i64 m1] (0,0) _ rfl (heap_setCell_same (heap_setCell_same (heap_setCell_same HS0.out.2 _) _) _) Tryz.underlying26 rfl sizeGraph) rfl ?_
  exact hP1.out _ ((HS0.out.1).ext.trans' (((((Ext.refl [b2+1] wc).setCell ⟨b2+1,0,none⟩ _ (by simp)).setCell ⟨b2+1,1,none⟩ _ (by simp)).setCell ⟨b2+1,2,none⟩ _ (by simp))) (fun k hlt hk=>by
   obtain rfl:=List.mem_singleton.1 hk
   exact absurd hlt (Nat.not_lt.2 ((HS0.out.1).base (Ob.one (b2+1) (.cells #[.slice none 0 0,.int .i64 0,.int .i64 0] 26 (0,0))) (by simp) _ (by simp [Ob.one]))))) HB2.out
 | false=>
 clear hc4 q0 q1 q2 hP1
 have S1:Sep w wc [oSl 47 2 (.slice none 0 0) 0 (rfC []),oSl 24 2 (.slice lb rn lc) rn (rfC R),oSl 35 5 (.slice ob5 on oc5) on (omsC out),oAny F (StQ L [] out),Ob.one b6 (.cells #[.slice vb vn vc,.int .i64 m0,.int .i64 m1,.map (some mb)] 62 (0,0)),Mp.oMp Tryz.prog 24 mkR mb L.length (idxF L),Ob.one (b2+1) (.cells #[.slice none 0 0,.int .i64 0,.int .i64 0] 26 (0,0)),Ob.one b2 (.cells #[.slice vb vn vc,.int .i64 m0,.int .i64 m1] 26 (0,0))]:=HS0.out.1.new (Ext.refl _ _) (oSl 47 2 (.slice none 0 0) 0 (rfC [])) (World.ownsRow_nil _ _ _ _) (fun q hq=>by simp [oSl,Value.ownBlock] at hq)
 have HS1:=zz S1
 clear S1 HS0
 obtain⟨i0,hig,hi0,hi1,hi2⟩:=info_parts infoObj28
 obtain⟨i1,hin,hi3,hi4,hi5⟩:=info_parts infoNote28
 have hRp:∀ r∈R,isPg L r=true:=by rw [←HS7.out.2.2.1]; exact loneM_pg _ _ _
 have HRp:=zz hRp
 have hrb:on+rn≤1000:=by
  have h1:=listM_len (m0,m1) L A
  rw [listM,List.length_append,List.length_map,HS7.out.2.2.1,HS9.out.2,←HS7.out.2.1,List.length_map,HS7.out.2.2.2] at h1
  have:=HH.out.2.2.2.2.1
  omega
 clear hRp
 go_wp2_with fail
 go_loopg [7,9,51] rn (fun g v7 v9 iv wr=>∃ i:Nat,g+i=rn∧iv=.int .i64 i∧Sep w wr [oSl 47 2 v9 i (rfC ((R.take i).map fun r=>((5:Int),r.1))),oSl 24 2 (.slice lb rn lc) rn (rfC R),oSl 35 5 v7 (on+i) (omsC (out++(R.take i).map (objOr L))),oAny F (StQ L [] out),Ob.one b6 (.cells #[.slice vb vn vc,.int .i64 m0,.int .i64 m1,.map (some mb)] 62 (0,0)),Mp.oMp Tryz.prog 24 mkR mb L.length (idxF L),Ob.one (b2+1) (.cells #[.slice none 0 0,.int .i64 0,.int .i64 0] 26 (0,0)),Ob.one b2 (.cells #[.slice vb vn vc,.int .i64 m0,.int .i64 m1] 26 (0,0))])
 case atStart=>exact⟨0,by omega,rfl,by simpa using HS1.out⟩
 case round=>
  clear HS1
  obtain⟨i,hgi,rfl,S⟩:=hrel
  obtain⟨nb,nc,rfl⟩:=row_slice (S.get 0 rfl:wr.ownsRow 0 47 2 u9 i (rfC ((R.take i).map fun r=>((5:Int),r.1))))
  obtain⟨tb,tc,rfl⟩:=row_slice (S.get 2 rfl:wr.ownsRow 0 35 5 u7 (on+i) (omsC (out++(R.take i).map (objOr L))))
  by_cases hlt:i<rn
  case pos=>
   obtain⟨g,rfl⟩:∃ g,gk=g+1:=⟨gk - 1,by omega⟩
   have hltz:(i:Int)<(rn:Int):=by omega
   have hil:i<R.length:=by rw [HS9.out.2]; exact hlt
   obtain⟨c1,c2⟩:=rfC_at R i hil
   have hrow:wr.ownsRow 0 24 2 (.slice lb rn lc) rn (rfC R):=S.get 1 rfl
   obtain⟨kg,kc9,hcv⟩:=row_form hrow (by omega)
   have hcv:lb=some ⟨kg,0,none⟩:=by injection hcv
   subst hcv
   have c1:=row_cell hrow c1
   have c2:=row_cell hrow c2
   have htk:R.take (i+1)=R.take i++[R[i]'hil]:=List.take_succ_eq_append_getElem hil
   obtain⟨x,hfx,-⟩:=isPg_some (HRp.out _ (List.getElem_mem hil))
   generalize R[i]'hil=kk at *
   obtain⟨k0,k1⟩:=kk
   dsimp only at c1 c2
   have hxL:=(findO_mem hfx).1
   have hkw:RfWf (k0,k1):=qok_wf28 HH.out.2.1 (Q:=[(k0,k1)]) ⟨by simp,fun r hr=>by obtain rfl:=List.mem_singleton.1 hr; exact hasO_some hfx⟩ _ (by simp)
   obtain⟨kl,hkl⟩:=keyR (r:=(k0,k1)) hkw
   have hor:objOr L (k0,k1)=x:=by unfold objOr; rw [hfx]; rfl
   have hb6:wr.heap[b6]? = some (.cells #[.slice vb vn vc,.int .i64 m0,.int .i64 m1,.map (some mb)] 62 (0,0)):=S.get 4 rfl
   obtain⟨xb,xc,hxv⟩:=tree_slice (oms_nodes (HH.out.1.ext S.ext) x hxL)
   have hvt:omV x=.agg (objX x.num x.gen xb x.tree.length xc x.stream x.data):=by unfold omV; rw [hxv]; rfl
   obtain⟨tn,htn⟩:∃ n,x.tree.length=n:=⟨_,rfl⟩
   obtain⟨xnum,hxnum⟩:∃ y,x.num=y:=⟨_,rfl⟩
   obtain⟨xgen,hxgen⟩:∃ y,x.gen=y:=⟨_,rfl⟩
   obtain⟨xst,hxst⟩:∃ y,x.stream=y:=⟨_,rfl⟩
   obtain⟨xdt,hxdt⟩:∃ y,x.data=y:=⟨_,rfl⟩
   rw [htn,hxnum,hxgen,hxst,hxdt] at hvt
   unfold objX at hvt
   have hcx:omC x=[.int .i64 xnum,.int .i64 xgen,.slice xb tn xc,.bool xst,.string xdt]:=by unfold omC; rw [hxnum,hxgen,hxv,hxst,hxdt,htn]
   have hlk:∀ W,Mp.MapAt Tryz.prog 24 mkR W mb L.length (idxF L)→(Instr.lookup 60 (.map (some mb)) (.agg #[.int .i64 k0,.int .i64 k1]) false).run Tryz.prog W=.ok (.agg #[.int .i64 xnum,.int .i64 xgen,.slice xb tn xc,.bool xst,.string xdt]) W:=fun W hM=>by
    have:=hM.look lawR Tryz.underlying60 (zeroObj W) (x:=(k0,k1)) hkl
    rw [show (idxF L (k0,k1)).getD zeroV=omV x by rw [objOr_V,hor],hvt] at this
    exact this
   have HX:=zz4 ⟨S,htk,hor,hcx⟩
   have HLK:=zz hlk
   clear S htk hor hcx hlk hrow hkw hfx hkl hxL hxv hvt htn hxnum hxgen hxst hxdt hb6
   go_upto_region 12 with fail
   refine gen_world (fun V1 hV1=>?_)
   obtain⟨q1,hq1⟩:∃ p,wr.heap.size=p:=⟨_,rfl⟩
   rw [hq1]
   have hx1:Ext [] wr V1:=by rw [←hV1]; exact (Ext.refl [] wr).alloc _
   have hb1:V1.heap[q1]? = some (.cells #[.int .i64 k0,.int .i64 k1] 24 (0,0)):=by rw [←hV1,←hq1]; exact heap_alloc_at _
   have S1:=HX.out.1.new hx1 (Ob.one q1 (.cells #[.int .i64 k0,.int .i64 k1] 24 (0,0))) hb1 (fun k hk=>by
    obtain rfl:k=q1:=by simpa [Ob.one] using hk
    omega)
   have hg1:V1.heap[b6]? = some (.cells #[.slice vb vn vc,.int .i64 m0,.int .i64 m1,.map (some mb)] 62 (0,0)):=S1.get 5 rfl
   have hlk:=HLK.out V1 (S1.get 6 rfl)
   have e0:V1.cell? ⟨q1,0,none⟩=some (.int .i64 k0):=cellOf hb1 0
   have e1:V1.cell? ⟨q1,1,none⟩=some (.int .i64 k1):=cellOf hb1 1
   have k3:V1.cell? ⟨b6,3,none⟩=some (.map (some mb)):=cellOf hg1 3
   have hrl:V1.ownsRow 0 35 5 (.slice tb (on+i) tc) (on+i) (omsC (out++(R.take i).map (objOr L))):=S1.get 3 rfl
   obtain⟨ln,hln⟩:∃ n,on+i=n:=⟨_,rfl⟩
   rw [hln] at hrl ⊢
   have hlb:ln≤1000:=by omega
   have HS2:=zz3 ⟨S1,hrl,hln⟩
   clear S1 hb1 hg1 hx1 hV1 hq1 c1 c2 hrl HLK hln
   go_upto_region 13 with (first | (at_builtin; refine wpList_append_lies _ rfl _ _ 22 rfl 0 35 i0 _ 5 64 Tryz.underlying22 hig hi0 hi1 hi2 rfl (by decide) (.slice tb ln tc) ln _ rfl (World.ownsRow.alloc HS2.out.2.1 _) ⟨V1.heap.size,0,none⟩ 1 1 [.int .i64 xnum,.int .i64 xgen,.slice xb tn xc,.bool xst,.string xdt] rfl rfl (World.news_of_block (heap_alloc_at (w:=V1) _)) (by simp [Value.oneCell']) (by decide) (by unfold maxLen; omega) (by omega) (by omega) (V1.heap.size+1) (by simp) ?_; intro g6 cap2 w9 hown1 hgrow hat6 hlt6; have HGr:=zz3 ⟨hown1,hgrow,hat6⟩; clear hown1 hgrow hat6 hlt6))
   have Pl:=push_local (cap:=cap2) (n:=ln+1) HGr.out.2.1 HGr.out.2.2
   have S3:=HS2.out.1.upd 3 (oSl 35 5 (.slice (some ⟨g6,0,none⟩) (ln+1) cap2) (ln+1) (omsC (out++(R.take (i+1)).map (objOr L)))) rfl (by rw [HS2.out.2.2]; exact Pl.1) (by rw [HS2.out.2.2]; exact Pl.2) (by
    show World.ownsRow _ 0 35 5 _ _ _
    rw [HX.out.2.1,List.map_append,←List.append_assoc,omsC_append,show omsC ([(k0,k1)].map (objOr L))=omC x by rw [List.map_singleton,HX.out.2.2.1]; simp [omsC],HX.out.2.2.2]
    exact HGr.out.1)
   have hq9:w9.heap[q1]? = some (.cells #[.int .i64 k0,.int .i64 k1] 24 (0,0)):=S3.get 0 rfl
   have e0:w9.cell? ⟨q1,0,none⟩=some (.int .i64 k0):=cellOf hq9 0
   have hrn:w9.ownsRow 0 47 2 (.slice nb i nc) i (rfC ((R.take i).map fun r=>((5:Int),r.1))):=S3.get 1 rfl
   have HS3:=zz2 ⟨S3,hrn⟩
   clear S3 Pl hq9 hrn e1 k3 hlk
   go_wp2_with (first | (at_builtin; refine wpList_append_lies _ rfl _ _ 27 rfl 0 47 i1 _ 2 16 Tryz.underlying27 hin hi3 hi4 hi5 rfl (by decide) (.slice nb i nc) i _ rfl (World.ownsRow.alloc HS3.out.2 _) ⟨w9.heap.size,0,none⟩ 1 1 [.int .i64 5,.int .i64 k0] rfl rfl (World.news_of_block (heap_alloc_at (w:=w9) _)) (by simp [Value.oneCell']) (by decide) (by unfold maxLen; omega) (by omega) (by omega) (w9.heap.size+1) (by simp) ?_; intro g7 cap3 w10 hown1 hgrow hat6 hlt6; have HGs:=zz3 ⟨hown1,hgrow,hat6⟩; clear hown1 hgrow hat6 hlt6))
   have Pn:=push_local (cap:=cap3) (n:=i+1) HGs.out.2.1 HGs.out.2.2
   have S4:=Tr.Sep.tail (HS3.out.1.upd 1 (oSl 47 2 (.slice (some ⟨g7,0,none⟩) (i+1) cap3) (i+1) (rfC ((R.take (i+1)).map fun r=>((5:Int),r.1)))) rfl Pn.1 Pn.2 (by
    show World.ownsRow _ 0 47 2 _ _ _
    rw [HX.out.2.1,List.map_append,rfC_append]
    exact HGs.out.1))
   go_roundg g
   case measure=>omega
   case rel=>exact⟨i+1,by omega,by go_num,by rw [show on+(i+1)=ln+1 by have:=HS2.out.2.2; omega]; exact S4⟩
  case neg=>
  obtain rfl:gk=0:=by omega
  obtain rfl:i=rn:=by omega
  rw [List.take_of_length_le (by rw [HS9.out.2]; exact Nat.le_refl _)] at S
  obtain⟨LS,hLS⟩:∃ l,out++R.map (objOr L)=l:=⟨_,rfl⟩
  have hLb:LS.map bare=listM (m0,m1) L A:=by
   rw [←hLS,listM,List.map_append,HS7.out.2.1,HS7.out.2.2.1,List.map_map]; rfl
  have hLl:LS.length=on+i:=by rw [←hLS,List.length_append,List.length_map,HS7.out.2.2.2,HS9.out.2]
  have hmem:∀ y∈R.map (objOr L),y∈L:=fun y hy=>by
   obtain⟨r,hr,rfl⟩:=List.mem_map.1 hy
   obtain⟨x,hx,-⟩:=isPg_some (HRp.out r hr)
   exact (objOr_key (hasO_some hx)).2.2
  have hib:i≤1000:=by omega
  obtain⟨kn,hkn⟩:∃ n,on+i=n:=⟨_,rfl⟩
  rw [hLS,hkn] at S
  rw [hkn] at hrb hLl ⊢
  have S0:Sep w wr [oSl 47 2 (.slice nb i nc) i (rfC (R.map fun r=>((5:Int),r.1))),oSl 35 5 (.slice tb kn tc) kn (omsC LS),oAny F (StQ L [] out),Ob.one b6 (.cells #[.slice vb vn vc,.int .i64 m0,.int .i64 m1,.map (some mb)] 62 (0,0)),Mp.oMp Tryz.prog 24 mkR mb L.length (idxF L),Ob.one (b2+1) (.cells #[.slice none 0 0,.int .i64 0,.int .i64 0] 26 (0,0)),Ob.one b2 (.cells #[.slice vb vn vc,.int .i64 m0,.int .i64 m1] 26 (0,0))]:=sep_pick [0,2,3,4,5,6,7] S (by decide) rfl
  have S1:=S0.upd 2 (oAny F (fun W=>(∀ x∈L,NodesAt W x.tv x.tree)→∀ y∈LS,NodesAt W y.tv y.tree)) rfl (Ext.refl _ _) (Fr.refl _ _) (oAny.imp (S0.get 2 rfl) (fun W hW hL y hy=>by
   rw [←hLS] at hy
   rcases List.mem_append.1 hy with hy | hy
   ·exact hW.2 hL y hy
   ·exact hL y (hmem y hy)))
  have h2:wr.heap[b2]? = some (.cells #[.slice vb vn vc,.int .i64 m0,.int .i64 m1] 26 (0,0)):=S1.get 6 rfl
  have q0:wr.cell? ⟨b2,0,none⟩=some (.slice vb vn vc):=cellOf h2 0
  have q1:wr.cell? ⟨b2,1,none⟩=some (.int .i64 m0):=cellOf h2 1
  have q2:wr.cell? ⟨b2,2,none⟩=some (.int .i64 m1):=cellOf h2 2
  have HL:=zz3 ⟨S1,hLb,hLl⟩
  have HA2:=zz (HAb.out wr S1.ext)
  obtain⟨n0,hn0⟩:∃ n,mostN (m0,m1) L+1=n:=⟨_,rfl⟩
  rw [hn0] at HA2
  have hn0b:1≤n0∧n0≤1000000001:=by have h1:=HH.out.2.2.2.2.2.2; have h2:=most_pos (m0,m1) L; omega
  have HN0:=zz hn0
  clear S S0 S1 hLS hLb hLl hmem hkn h2 HAb hn0 hlt hgi
  go_wp2_with fail
  refine HA2.out.mono ?_
  rintro e w7 ⟨rfl,hx7⟩
  have S2:=HL.out.1.quiet hx7
  have h6:w7.heap[b6]? = some (.cells #[.slice vb vn vc,.int .i64 m0,.int .i64 m1,.map (some mb)] 62 (0,0)):=S2.get 3 rfl
  have k0:w7.cell? ⟨b6,0,none⟩=some (.slice vb vn vc):=cellOf h6 0
  have k1:w7.cell? ⟨b6,1,none⟩=some (.int .i64 m0):=cellOf h6 1
  have k2:w7.cell? ⟨b6,2,none⟩=some (.int .i64 m1):=cellOf h6 2
  have k3:w7.cell? ⟨b6,3,none⟩=some (.map (some mb)):=cellOf h6 3
  have hRo:=HRo.out mb w7 ⟨S2.get 4 rfl,oms_nodes (HH.out.1.ext S2.ext),HH.out.2.1⟩
  obtain⟨rx,hrx⟩:∃ x,objOr L (m0,m1)=x:=⟨_,rfl⟩
  obtain⟨xb,xn,xc,hxv⟩:∃ b n c,rx.tv=.slice b n c:=by
   rw [←hrx]
   unfold objOr
   cases hf:findO L (m0,m1) with
   | none=>exact⟨none,0,0,rfl⟩
   | some x=>
    obtain⟨b,c,h⟩:=tree_slice (oms_nodes HH.out.1 x (findO_mem hf).1)
    exact⟨b,_,c,h⟩
  have hxN:∀ W,(∀ x∈L,NodesAt W x.tv x.tree)→NodesAt W rx.tv rx.tree:=fun W hW=>by
   rw [←hrx]
   unfold objOr
   cases hf:findO L (m0,m1) with
   | none=>exact nodes_nil W
   | some x=>exact hW x (findO_mem hf).1
  obtain⟨xnum,hxnum⟩:∃ y,rx.num=y:=⟨_,rfl⟩
  obtain⟨xgen,hxgen⟩:∃ y,rx.gen=y:=⟨_,rfl⟩
  obtain⟨xst,hxst⟩:∃ y,rx.stream=y:=⟨_,rfl⟩
  obtain⟨xdt,hxdt⟩:∃ y,rx.data=y:=⟨_,rfl⟩
  have hov:omVo (findO L (m0,m1))=.agg #[.int .i64 xnum,.int .i64 xgen,.slice xb xn xc,.bool xst,.string xdt]:=by
   have:omVo (findO L (m0,m1))=omV rx:=by rw [←hrx]; unfold objOr; cases findO L (m0,m1) <;> rfl
   rw [this]; unfold omV; rw [hxnum,hxgen,hxv,hxst,hxdt]
  obtain⟨rB,hrB⟩:∃ b,rootB L (m0,m1)=b:=⟨_,rfl⟩
  rw [hov,hrB] at hRo
  have HRo2:=zz hRo
  have HR:=zz8 ⟨hrx,hxv,hxN,hxnum,hxgen,hxst,hxdt,hrB⟩
  have HL2:=zz S2
  clear S2 hx7 h6 hRo hrx hxv hxN hxnum hxgen hxst hxdt hov hrB q0 q1 q2 HA2 HRo
  go_wp2_with fail
  refine HRo2.out.mono ?_
  rintro e w8 ⟨rfl,hx8⟩
  have S3:=HL2.out.quiet hx8
  have HL3:=zz S3
  clear S3 hx8 HRo2 k0 k1 k2 k3 HL2
  go_upto_region 17 with fail
  refine gen_world (fun W9 hW9=>?_)
  obtain⟨b13,hb13⟩:∃ p,w8.heap.size=p:=⟨_,rfl⟩
  (try rw [hb13])
  have hx9:Ext [] w8 W9:=by rw [←hW9]; exact (Ext.refl [] w8).alloc _
  have hc13:W9.heap[b13]? = some (.cells #[.int .i64 xnum,.int .i64 xgen,.slice xb xn xc,.bool xst,.string xdt] 35 (0,0)):=by rw [←hW9,←hb13]; exact heap_alloc_at _
  have S4:=HL3.out.new hx9 (Ob.one b13 (.cells #[.int .i64 xnum,.int .i64 xgen,.slice xb xn xc,.bool xst,.string xdt] 35 (0,0))) hc13 (fun k hk=>by
   obtain rfl:k=b13:=by simpa [Ob.one] using hk
   omega)
  have HL4:=zz S4
  clear S4 hx9 hW9 hb13 HL3
  obtain⟨NT1,hNT1⟩:∃ l,R.map (fun r=>((5:Int),r.1))++(if rB=true then [] else [((3:Int),n0)])=l:=⟨_,rfl⟩
  have hn1:NT1.length≤1001:=by
   rw [←hNT1,List.length_append,List.length_map,HS9.out.2]
   split <;> simp <;> omega
  have HN1:=zz hNT1
  clear hNT1
  go_upto_if 77 with fail
  go_cut [9,12] from 76 to 87 (fun c9 c12 wx=>∃ (rt:Om) (rb9:Option Addr) (rl9 rc9:Nat) (FR:List Nat),c12=.int .i64 (atM (m0,m1) L)∧bare rt=rtM (m0,m1) L∧rt.tv=.slice rb9 rl9 rc9∧Sep w wx [Ob.one b13 (.cells #[.int .i64 rt.num,.int .i64 rt.gen,.slice rb9 rl9 rc9,.bool rt.stream,.string rt.data] 35 (0,0)),oSl 47 2 c9 NT1.length (rfC NT1),oSl 35 5 (.slice tb kn tc) kn (omsC LS),
   oAny FR (fun W=>(∀ x∈L,NodesAt W x.tv x.tree)→(∀ y∈LS,NodesAt W y.tv y.tree)∧NodesAt W rt.tv rt.tree),Ob.one b6 (.cells #[.slice vb vn vc,.int .i64 m0,.int .i64 m1,.map (some mb)] 62 (0,0)),Mp.oMp Tryz.prog 24 mkR mb L.length (idxF L),Ob.one (b2+1) (.cells #[.slice none 0 0,.int .i64 0,.int .i64 0] 26 (0,0)),Ob.one b2 (.cells #[.slice vb vn vc,.int .i64 m0,.int .i64 m1] 26 (0,0))])
  case first=>
   cases rB with
   | true=>
    clear hc13
    go_wp2_with fail
    go_meet
    refine⟨rx,xb,xn,xc,F,by unfold atM; rw [if_pos HR.out.2.2.2.2.2.2.2]; exact congrArg _ HN0.out.symm,by unfold rtM; rw [if_pos HR.out.2.2.2.2.2.2.2,HR.out.1],HR.out.2.1,?_⟩
    rw [HR.out.2.2.2.1,HR.out.2.2.2.2.1,HR.out.2.2.2.2.2.1,HR.out.2.2.2.2.2.2.1]
    have hN:NT1=R.map fun r=>((5:Int),r.1):=by rw [←HN1.out]; simp
    have hl:(R.map fun r=>((5:Int),r.1)).length=i:=by rw [List.length_map]; exact HS9.out.2
    rw [hN,hl]
    exact HL4.out.upd 3 _ rfl (Ext.refl _ _) (Fr.refl _ _) (oAny.imp (HL4.out.get 3 rfl) (fun W hW hL=>⟨hW hL,HR.out.2.2.1 W hL⟩))
   | false=>
    have HTy:=zz (typed_walk kCatalog (by decide) W9)
    clear hc13
    go_wp2_with fail
    refine HTy.out.mono ?_
    rintro e w10 ⟨v10,rfl,F10,S10⟩
    have S11:Sep w w10 (oTr F10 v10 (typedN kCatalog)::[Ob.one b13 (.cells #[.int .i64 xnum,.int .i64 xgen,.slice xb xn xc,.bool xst,.string xdt] 35 (0,0)),oSl 47 2 (.slice nb i nc) i (rfC (R.map fun r=>((5:Int),r.1))),oSl 35 5 (.slice tb kn tc) kn (omsC LS),oAny F (fun W=>(∀ x∈L,NodesAt W x.tv x.tree)→∀ y∈LS,NodesAt W y.tv y.tree),Ob.one b6 (.cells #[.slice vb vn vc,.int .i64 m0,.int .i64 m1,.map (some mb)] 62 (0,0)),Mp.oMp Tryz.prog 24 mkR mb L.length (idxF L),Ob.one (b2+1) (.cells #[.slice none 0 0,.int .i64 0,.int .i64 0] 26 (0,0)),Ob.one b2 (.cells #[.slice vb vn vc,.int .i64 m0,.int .i64 m1] 26 (0,0))]):=sep_cat HL4.out S10
    obtain⟨yb,yc,hyv⟩:=tree_slice (oTr.nodes (S10.get 0 rfl))
    obtain⟨yn,hyn⟩:∃ n,(typedN kCatalog).length=n:=⟨_,rfl⟩
    rw [hyn] at hyv
    subst hyv
    have S12:=Tr.Sep.glue (j:=3) S11 rfl (oAny (F10++F) (fun W=>(∀ x∈L,NodesAt W x.tv x.tree)→(∀ y∈LS,NodesAt W y.tv y.tree)∧NodesAt W (.slice yb yn yc) (typedN kCatalog))) (fun k hk=>by
     rcases List.mem_append.1 hk with hk | hk
     ·exact .inl hk
     ·exact .inr hk) (oAny.imp (oAny.both (F:=F10) (Q:=fun W=>NodesAt W (.slice yb yn yc) (typedN kCatalog)) (S11.get 0 rfl) (S11.get 4 rfl)) (fun W hW hL=>⟨hW.2 hL,hW.1⟩))
    have hc13:w10.heap[b13]? = some (.cells #[.int .i64 xnum,.int .i64 xgen,.slice xb xn xc,.bool xst,.string xdt] 35 (0,0)):=S12.get 0 rfl
    have f0:=freeOf hc13 0
    have f1:=freeOf hc13 1
    have f2:=freeOf hc13 2
    have f3:=freeOf hc13 3
    have f4:=freeOf hc13 4
    have r0:=cellOf hc13 0
    have r1:=cellOf hc13 1
    have r2:=cellOf hc13 2
    have r3:=cellOf hc13 3
    have r4:=cellOf hc13 4
    have H12:=zz2 ⟨S12,hc13⟩
    clear S12 S11 S10 HTy hc13 hyn
    go_upto_region 19 with fail
    refine gen_world (fun W11 hW11=>?_)
    have hx11:Ext [b13] w10 W11:=by rw [←hW11]; exact (((((Ext.refl [b13] w10).setCell ⟨b13,0,none⟩ _ (by simp)).setCell ⟨b13,1,none⟩ _ (by simp)).setCell ⟨b13,2,none⟩ _ (by simp)).setCell ⟨b13,3,none⟩ _ (by simp)).setCell ⟨b13,4,none⟩ _ (by simp)
    have hc13:W11.heap[b13]? = some (.cells #[.int .i64 n0,.int .i64 0,.slice yb yn yc,.bool false,.string ⟨#[]⟩] 35 (0,0)):=by rw [←hW11]; exact heap_setCell_same (heap_setCell_same (heap_setCell_same (heap_setCell_same (heap_setCell_same H12.out.2 _) _) _) _) _
    have S13:=H12.out.1.upd 0 (Ob.one b13 (.cells #[.int .i64 n0,.int .i64 0,.slice yb yn yc,.bool false,.string ⟨#[]⟩] 35 (0,0))) rfl hx11 (Fr.refl _ _) hc13
    have hrn:W11.ownsRow 0 47 2 (.slice nb i nc) i (rfC (R.map fun r=>((5:Int),r.1))):=S13.get 1 rfl
    have HS13:=zz2 ⟨S13,hrn⟩
    clear S13 hrn hx11 hc13 hW11 f0 f1 f2 f3 f4 r0 r1 r2 r3 r4 H12
    go_wp2_with (first | (at_builtin; refine wpList_append_lies _ rfl _ _ 27 rfl 0 47 i1 _ 2 16 Tryz.underlying27 hin hi3 hi4 hi5 rfl (by decide) (.slice nb i nc) i _ rfl (World.ownsRow.alloc HS13.out.2 _) ⟨W11.heap.size,0,none⟩ 1 1 [.int .i64 3,.int .i64 n0] rfl rfl (World.news_of_block (heap_alloc_at (w:=W11) _)) (by simp [Value.oneCell']) (by decide) (by unfold maxLen; omega) (by omega) (by omega) (W11.heap.size+1) (by simp) ?_; intro g7 cap3 w12 hown1 hgrow hat6 hlt6; have HGs:=zz3 ⟨hown1,hgrow,hat6⟩; clear hown1 hgrow hat6 hlt6))
    go_meet
    have Pn:=push_local (cap:=cap3) (n:=i+1) HGs.out.2.1 HGs.out.2.2
    have hN:NT1=(R.map fun r=>((5:Int),r.1))++[(3,n0)]:=by rw [←HN1.out]; simp
    have hl:NT1.length=i+1:=by rw [hN,List.length_append,List.length_map,HS9.out.2]; rfl
    rw [hl]
    refine⟨⟨n0,0,.slice yb yn yc,false,⟨#[]⟩,typedN kCatalog⟩,yb,yn,yc,F10++F,?_,?_,rfl,HS13.out.1.upd 1 (oSl 47 2 (.slice (some ⟨g7,0,none⟩) (i+1) cap3) (i+1) (rfC NT1)) rfl Pn.1 Pn.2 (by
     show World.ownsRow _ 0 47 2 _ _ _
     rw [hN,rfC_append]
     exact HGs.out.1)⟩
    ·unfold atM
     rw [if_neg (by rw [HR.out.2.2.2.2.2.2.2]; simp)]
     have:=HN0.out
     exact congrArg _ (by omega)
    ·unfold rtM
     rw [if_neg (by rw [HR.out.2.2.2.2.2.2.2]; simp),HN0.out]
     rfl
  case rest=>
  obtain⟨rt,rb9,rl9,rc9,FR,rfl,hrt,hrv,S⟩:=hcut
  have hatb:1≤atM (m0,m1) L∧atM (m0,m1) L≤1000000002:=by
   have h0:=HN0.out
   unfold atM
   split <;> omega
  have hNT:NT1++[(3,atM (m0,m1) L),(4,atM (m0,m1) L)]=notesM (m0,m1) L A:=by
   rw [notesM,HS7.out.2.2.1,←HN1.out,HR.out.2.2.2.2.2.2.2,HN0.out]
  obtain⟨at_,hat⟩:∃ a,atM (m0,m1) L=a:=⟨_,rfl⟩
  rw [hat] at hatb hNT ⊢
  obtain⟨n1,hnl⟩:∃ n,NT1.length=n:=⟨_,rfl⟩
  rw [hnl] at S hn1
  obtain⟨nb,nc,rfl⟩:=row_slice (S.get 1 rfl:wc.ownsRow 0 47 2 u9 n1 (rfC NT1))
  obtain⟨rnum,hrnum⟩:∃ y,rt.num=y:=⟨_,rfl⟩
  obtain⟨rgen,hrgen⟩:∃ y,rt.gen=y:=⟨_,rfl⟩
  obtain⟨rst,hrst⟩:∃ y,rt.stream=y:=⟨_,rfl⟩
  obtain⟨rdt,hrdt⟩:∃ y,rt.data=y:=⟨_,rfl⟩
  rw [hrnum,hrgen,hrst,hrdt] at S
  have hrow:wc.ownsRow 0 47 2 (.slice nb n1 nc) n1 (rfC NT1):=S.get 1 rfl
  have HT:=zz8 ⟨hrt,hrv,hrnum,hrgen,hrst,hrdt,hNT,hat⟩
  have HS:=zz2 ⟨S,hrow⟩
  clear S hrow hrt hrv hrnum hrgen hrst hrdt hNT hat hnl HL4 hc13
  go_upto_region 22 with (first | (at_builtin; refine wpList_append_lies _ rfl _ _ 27 rfl 0 47 i1 _ 2 16 Tryz.underlying27 hin hi3 hi4 hi5 rfl (by decide) (.slice nb n1 nc) n1 _ rfl (World.ownsRow.alloc HS.out.2 _) ⟨wc.heap.size,0,none⟩ 2 2 [.int .i64 3,.int .i64 at_,.int .i64 4,.int .i64 at_] rfl rfl (World.news_of_block (heap_alloc_at (w:=wc) _)) (by simp [Value.oneCell']) (by decide) (by unfold maxLen; omega) (by omega) (by omega) (wc.heap.size+1) (by simp) ?_; intro g7 cap3 w12 hown1 hgrow hat6 hlt6; have HGs:=zz3 ⟨hown1,hgrow,hat6⟩; clear hown1 hgrow hat6 hlt6))
  have Pn:=push_local (cap:=cap3) (n:=n1+2) HGs.out.2.1 HGs.out.2.2
  have S14:=HS.out.1.upd 1 (oSl 47 2 (.slice (some ⟨g7,0,none⟩) (n1+2) cap3) (n1+2) (rfC (notesM (m0,m1) L A))) rfl Pn.1 Pn.2 (by
   show World.ownsRow _ 0 47 2 _ _ _
   rw [←HT.out.2.2.2.2.2.2.1,rfC_append]
   exact HGs.out.1)
  obtain⟨mk,hmk⟩:∃ p,w12.heap.size=p:=⟨_,rfl⟩
  obtain⟨V1,hV1⟩:∃ W,w12.alloc (.map #[] 0)=W:=⟨_,rfl⟩
  have hx15:Ext [] w12 V1:=by rw [←hV1]; exact (Ext.refl [] w12).alloc _
  have hmd:Mp.MapAt Tryz.prog 3 Mp.mkI V1 mk 0 (mdF []):=by
   have:=Mp.MapAt.made w12 Tryz.prog 3 Mp.mkI
   rw [hV1,hmk] at this
   exact this
  have S15:=S14.new hx15 (Mp.oMp Tryz.prog 3 Mp.mkI mk 0 (mdF [])) hmd (fun k hk=>by simp [Mp.oMp] at hk; omega)
  have HS15:=zz S15
  clear S14 S15 hx15 hmd Pn
  have HRf:=zz (ref_walk (at_,0) ⟨by show -9223372036854775808≤at_∧at_≤9223372036854775807; omega,by show (-9223372036854775808:Int)≤0∧(0:Int)≤9223372036854775807; omega⟩ V1)
  go_wp2_with fail
  (try rw [hV1])
  (try rw [hmk])
  clear hV1 hmk
  refine HRf.out.mono ?_
  rintro e w16 ⟨v17,rfl,F17,S16⟩
  obtain⟨pb,pc,hpv⟩:∃ b c,v17=.slice b 1 c:=tree_slice (oTr.nodes (S16.get 0 rfl))
  subst hpv
  have S17:=sep_cat HS15.out S16
  have S18:=Tr.Sep.glue (j:=4) S17 rfl (oAny (F17++FR) (fun W=>(∀ x∈L,NodesAt W x.tv x.tree)→NodesAt W (.slice pb 1 pc) (refT (at_,0))∧(∀ y∈LS,NodesAt W y.tv y.tree)∧NodesAt W rt.tv rt.tree)) (fun k hk=>by
   rcases List.mem_append.1 hk with hk | hk
   ·exact .inl hk
   ·exact .inr hk) (oAny.imp (oAny.both (F:=F17) (Q:=fun W=>NodesAt W (.slice pb 1 pc) (refT (at_,0))) (S17.get 0 rfl) (S17.get 5 rfl)) (fun W hW hL=>⟨hW.1,hW.2 hL⟩))
  have S19:Sep w w16 [oSl 31 1 (.slice none 0 0) 0 (([]:List (Value×List Nd)).map (·.1)),Mp.oMp Tryz.prog 3 Mp.mkI mk 0 (mdF []),oAny (F17++FR) (fun W=>(∀ x∈L,NodesAt W x.tv x.tree)→NodesAt W (.slice pb 1 pc) (refT (at_,0))∧(∀ y∈LS,NodesAt W y.tv y.tree)∧NodesAt W rt.tv rt.tree),Ob.one b13 (.cells #[.int .i64 rnum,.int .i64 rgen,.slice rb9 rl9 rc9,.bool rst,.string rdt] 35 (0,0)),oSl 47 2 (.slice (some ⟨g7,0,none⟩) (n1+2) cap3) (n1+2) (rfC (notesM (m0,m1) L A)),oSl 35 5 (.slice tb kn tc) kn (omsC LS),Ob.one (b2+1) (.cells #[.slice none 0 0,.int .i64 0,.int .i64 0] 26 (0,0)),Ob.one b2 (.cells #[.slice vb vn vc,.int .i64 m0,.int .i64 m1] 26 (0,0))]:=(sep_pick [0,4,1,2,3,7,8] S18 (by decide) rfl).new (Ext.refl _ _) (oSl 31 1 (.slice none 0 0) 0 (([]:List (Value×List Nd)).map (·.1))) (World.ownsRow_nil _ _ _ _) (fun q hq=>by simp [oSl,Value.ownBlock] at hq)
  have S20:=S19.upd 2 (oAny (F17++FR) (fun W=>(∀ x∈L,NodesAt W x.tv x.tree)→NodesAt W (.slice pb 1 pc) (refT (at_,0))∧(∀ y∈LS,NodesAt W y.tv y.tree)∧NodesAt W rt.tv rt.tree∧(∀ p∈([]:List (Value×List Nd)),NodesAt W p.1 p.2)∧(∀ y∈([]:List Om),NodesAt W y.tv y.tree))) rfl (Ext.refl _ _) (Fr.refl _ _) (oAny.imp (S19.get 2 rfl) (fun W hW hL=>⟨(hW hL).1,(hW hL).2.1,(hW hL).2.2,fun p hp=>(by cases hp),fun p hp=>(by cases hp)⟩))
  have HS20:=zz S20
  have hPk:∀ y∈LS,PgOk L (bare y):=fun y hy=>listM_pg (m0,m1) L A (fun x hx=>⟨(HH.out.2.1 x hx).lt,HH.out.2.2.2.1 x hx⟩) _ (by rw [←HL.out.2.1]; exact List.mem_map_of_mem hy)
  have HPk:=zz hPk
  obtain⟨j2,hjn,hj0,hj1,hj2⟩:=info_parts infoNodes
  clear S16 S17 S18 S19 S20 HS15 HRf hPk
  go_wp2_with fail
  go_loopg [16,101] kn (fun g v16 iv wr=>∃ (j:Nat) (PG:List Om) (Z:List (Value×List Nd)) (FA:List Nat),g+j=kn∧iv=.int .i64 j∧PG.map bare=(LS.take j).map (fun y=>bare (pgO (at_,0) y))∧Z.map (·.2)=(LS.take j).map (fun y=>refT (refO y))∧(∀ y∈PG,∃ b n c,y.tv=.slice b n c)∧
   Sep w wr [oSl 31 1 v16 j (Z.map (·.1)),Mp.oMp Tryz.prog 3 Mp.mkI mk j (mdF PG),oAny (FA) (fun W=>(∀ x∈L,NodesAt W x.tv x.tree)→NodesAt W (.slice pb 1 pc) (refT (at_,0))∧(∀ y∈LS,NodesAt W y.tv y.tree)∧NodesAt W rt.tv rt.tree∧(∀ p∈(Z:List (Value×List Nd)),NodesAt W p.1 p.2)∧(∀ y∈(PG:List Om),NodesAt W y.tv y.tree)),Ob.one b13 (.cells #[.int .i64 rnum,.int .i64 rgen,.slice rb9 rl9 rc9,.bool rst,.string rdt] 35 (0,0)),oSl 47 2 (.slice (some ⟨g7,0,none⟩) (n1+2) cap3) (n1+2) (rfC (notesM (m0,m1) L A)),oSl 35 5 (.slice tb kn tc) kn (omsC LS),Ob.one (b2+1) (.cells #[.slice none 0 0,.int .i64 0,.int .i64 0] 26 (0,0)),Ob.one b2 (.cells #[.slice vb vn vc,.int .i64 m0,.int .i64 m1] 26 (0,0))])
  case atStart=>exact⟨0,[],[],F17++FR,by omega,rfl,rfl,rfl,fun y hy=>(by cases hy),HS20.out⟩
  case round=>
   clear HS20
   obtain⟨j,PG,Z,FA,hgj,rfl,hPG,hZ,hPGs,S⟩:=hrel
   obtain⟨ab,ac,rfl⟩:=row_slice (S.get 0 rfl:wr.ownsRow 0 31 1 u16 j (Z.map (·.1)))
   by_cases hlt:j<kn
   case pos=>
    obtain⟨g,rfl⟩:∃ g,gk=g+1:=⟨gk - 1,by omega⟩
    have hltz:(j:Int)<(kn:Int):=by omega
    have hjl:j<LS.length:=by rw [HL.out.2.2]; exact hlt
    have hLn:∀ x∈L,NodesAt wr x.tv x.tree:=oms_nodes (HH.out.1.ext S.ext)
    have hrow:wr.ownsRow 0 35 5 (.slice tb kn tc) kn (omsC LS):=S.get 5 rfl
    obtain⟨tg,tc9,hcv⟩:=row_form hrow (by omega)
    have hcv:tb=some ⟨tg,0,none⟩:=by injection hcv
    subst hcv
    obtain⟨c0,c1,c2,c3,c4⟩:=omsC_at LS j hjl
    have c0:=row_cell hrow c0
    have c1:=row_cell hrow c1
    have c2:=row_cell hrow c2
    have c3:=row_cell hrow c3
    have c4:=row_cell hrow c4
    have htk:LS.take (j+1)=LS.take j++[LS[j]'hjl]:=List.take_succ_eq_append_getElem hjl
    have hyN:=((oAny.now (S.get 2 rfl)) hLn).2.1 _ (List.getElem_mem hjl)
    have hyP:=HPk.out _ (List.getElem_mem hjl)
    have hym:LS[j]'hjl∈LS:=List.getElem_mem hjl
    generalize LS[j]'hjl=y at *
    obtain⟨yb,yc,hyv⟩:=tree_slice hyN
    obtain⟨ynum,ygen,ytv,yst,ydt,ytr⟩:=y
    have hyv:ytv=.slice yb ytr.length yc:=hyv
    subst hyv
    obtain⟨yn,hyn⟩:∃ n,ytr.length=n:=⟨_,rfl⟩
    rw [hyn] at c2 htk hym
    dsimp only at c0 c1 c2 c3 c4
    have hyk:KOk ytr 904:=hyP.kok
    have hyw:RfWf (ynum,ygen):=by
     obtain⟨x,hx,e1,e2,-⟩:=hyP.of
     have:=HH.out.2.1 x hx
     have e1:ynum=x.num:=e1
     have e2:ygen=x.gen:=e2
     rw [e1,e2]
     exact⟨this.num,this.gen⟩
    have HOf:=zz (fun W=>of_walk ⟨ynum,ygen,.slice yb yn yc,yst,ydt,ytr⟩ W ⟨_,_,_,rfl⟩)
    have HRf:=zz (fun W=>ref_walk (ynum,ygen) hyw W)
    have hkl:=keyI hyw.1
    have HX:=zz9 ⟨S,htk,hym,hyk,hyw,hkl,hPG,hZ,hPGs⟩
    clear S htk hym hyk hyw hkl hPG hZ hPGs hyN hyP hyn hrow hLn
    go_upto_region 28 with fail
    refine gen_world (fun V hV=>?_)
    obtain⟨b19,hb19⟩:∃ p,wr.heap.size=p:=⟨_,rfl⟩
    (try rw [hb19])
    have hxV:Ext [] wr V:=by rw [←hV]; exact (Ext.refl [] wr).alloc _
    have hcV:V.heap[b19]? = some (.cells #[.int .i64 ynum,.int .i64 ygen,.slice yb yn yc,.bool yst,.string ydt] 35 (0,0)):=by rw [←hV,←hb19]; exact heap_alloc_at _
    have S1:=HX.out.1.new hxV (Ob.one b19 (.cells #[.int .i64 ynum,.int .i64 ygen,.slice yb yn yc,.bool yst,.string ydt] 35 (0,0))) hcV (fun k hk=>by
     obtain rfl:k=b19:=by simpa [Ob.one] using hk
     omega)
    have e0:V.cell? ⟨b19,0,none⟩=some (.int .i64 ynum):=cellOf hcV 0
    have e1:V.cell? ⟨b19,1,none⟩=some (.int .i64 ygen):=cellOf hcV 1
    have e2:V.cell? ⟨b19,2,none⟩=some (.slice yb yn yc):=cellOf hcV 2
    have e3:V.cell? ⟨b19,3,none⟩=some (.bool yst):=cellOf hcV 3
    have e4:V.cell? ⟨b19,4,none⟩=some (.string ydt):=cellOf hcV 4
    have HS1:=zz S1
    clear S1 hcV hxV hV hb19 c0 c1 c2 c3 c4
    go_wp2_with fail
    refine (HOf.out _).mono ?_
    rintro e w2' ⟨rfl,hx2⟩
    have HS2:=zz (HS1.out.quiet hx2)
    clear hx2 HOf HS1 e0 e1 e2 e3 e4
    go_wp2_with fail
    refine (HRf.out _).mono ?_
    rintro e w3' ⟨v3,rfl,F3,S3⟩
    obtain⟨zb,zc,hzv⟩:∃ b c,v3=.slice b 1 c:=tree_slice (oTr.nodes (S3.get 0 rfl))
    subst hzv
    have S4:=sep_cat HS2.out S3
    have S5:=Tr.Sep.glue (j:=3) S4 rfl (oAny (F3++FA) (fun W=>(∀ x∈L,NodesAt W x.tv x.tree)→NodesAt W (.slice pb 1 pc) (refT (at_,0))∧(∀ y∈LS,NodesAt W y.tv y.tree)∧NodesAt W rt.tv rt.tree∧(∀ p∈(Z++[(Value.slice zb 1 zc,refT (ynum,ygen))]:List (Value×List Nd)),NodesAt W p.1 p.2)∧(∀ y∈(PG:List Om),NodesAt W y.tv y.tree))) (fun k hk=>by
     rcases List.mem_append.1 hk with hk | hk
     ·exact .inl hk
     ·exact .inr hk) (oAny.imp (oAny.both (F:=F3) (Q:=fun W=>NodesAt W (.slice zb 1 zc) (refT (ynum,ygen))) (S4.get 0 rfl) (S4.get 4 rfl)) (fun W hW hL=>⟨(hW.2 hL).1,(hW.2 hL).2.1,(hW.2 hL).2.2.1,fun p hp=>by
      rcases List.mem_append.1 hp with hp | hp
      ·exact (hW.2 hL).2.2.2.1 p hp
      ·obtain rfl:=List.mem_singleton.1 hp
       exact hW.1,(hW.2 hL).2.2.2.2⟩))
    have hra:w3'.ownsRow 0 31 1 (.slice ab j ac) j (Z.map (·.1)):=S5.get 1 rfl
    have HS5':=zz2 ⟨S5,hra⟩
    clear S4 S5 S3 hra HRf HS2
    go_upto_region 29 with (first | (at_builtin; refine wpList_append_lies _ rfl _ _ 57 rfl 0 31 j2 _ 1 24 Tryz.underlying57 hjn hj0 hj1 hj2 rfl (by decide) (.slice ab j ac) j _ rfl (World.ownsRow.alloc HS5'.out.2 _) ⟨w3'.heap.size,0,none⟩ 1 1 [.slice zb 1 zc] rfl rfl (World.news_of_block (heap_alloc_at (w:=w3') _)) (by simp [Value.oneCell']) (by decide) (by unfold maxLen; omega) (by omega) (by omega) (w3'.heap.size+1) (by simp) ?_; intro g8 cap4 w9' hown1 hgrow hat6 hlt6; have HGr:=zz3 ⟨hown1,hgrow,hat6⟩; clear hown1 hgrow hat6 hlt6))
    have Pl:=push_local (cap:=cap4) (n:=j+1) HGr.out.2.1 HGr.out.2.2
    have S6:=HS5'.out.1.upd 1 (oSl 31 1 (.slice (some ⟨g8,0,none⟩) (j+1) cap4) (j+1) ((Z++[(Value.slice zb 1 zc,refT (ynum,ygen))]).map (·.1))) rfl Pl.1 Pl.2 (by
     show World.ownsRow _ 0 31 1 _ _ _
     rw [List.map_append]
     exact HGr.out.1)
    have hLn:∀ x∈L,NodesAt w9' x.tv x.tree:=oms_nodes (HH.out.1.ext S6.ext)
    have hAn:=(oAny.now (S6.get 3 rfl)) hLn
    have hy9:NodesAt w9' (.slice yb yn yc) ytr:=hAn.2.1 _ HX.out.2.2.1
    have hb9:w9'.heap[b19]? = some (.cells #[.int .i64 ynum,.int .i64 ygen,.slice yb yn yc,.bool yst,.string ydt] 35 (0,0)):=S6.get 0 rfl
    have e2:w9'.cell? ⟨b19,2,none⟩=some (.slice yb yn yc):=cellOf hb9 2
    have HSet:=zz (set_new (.slice yb yn yc) (.slice pb 1 pc) ytr (refT (at_,0)) kParent w9' hy9 hAn.1 HX.out.2.2.2.1.lt (lt_ref _) (by decide) (Nat.le_trans (ents_cnt _ _) (Nat.le_trans HX.out.2.2.2.1.cnt (by omega))))
    have HS6:=zz S6
    clear S6 Pl hLn hAn hy9 hb9
    go_wp2_with fail
    refine HSet.out.mono ?_
    rintro e w10' ⟨v4,rfl,F4,S7⟩
    obtain⟨sb,sn,sc,hsv⟩:∃ b n c,v4=.slice b n c:=by
     obtain⟨b,c,h⟩:=tree_slice (oTr.nodes (S7.get 0 rfl))
     exact⟨b,_,c,h⟩
    subst hsv
    have S8:=sep_cat HS6.out S7
    obtain⟨py,hpy⟩:∃ y,(⟨ynum,ygen,.slice sb sn sc,yst,ydt,setT ytr kParent (refT (at_,0))⟩:Om)=y:=⟨_,rfl⟩
    have S9:=Tr.Sep.glue (j:=3) S8 rfl (oAny (F4++(F3++FA)) (fun W=>(∀ x∈L,NodesAt W x.tv x.tree)→NodesAt W (.slice pb 1 pc) (refT (at_,0))∧(∀ y∈LS,NodesAt W y.tv y.tree)∧NodesAt W rt.tv rt.tree∧(∀ p∈(Z++[(Value.slice zb 1 zc,refT (ynum,ygen))]:List (Value×List Nd)),NodesAt W p.1 p.2)∧(∀ y∈(PG++[py]:List Om),NodesAt W y.tv y.tree))) (fun k hk=>by
     rcases List.mem_append.1 hk with hk | hk
     ·exact .inl hk
     ·exact .inr hk) (oAny.imp (oAny.both (F:=F4) (Q:=fun W=>NodesAt W (.slice sb sn sc) (setN ytr kParent (refT (at_,0))).1) (S8.get 0 rfl) (S8.get 4 rfl)) (fun W hW hL=>⟨(hW.2 hL).1,(hW.2 hL).2.1,(hW.2 hL).2.2.1,(hW.2 hL).2.2.2.1,fun p hp=>by
      rcases List.mem_append.1 hp with hp | hp
      ·exact (hW.2 hL).2.2.2.2 p hp
      ·obtain rfl:=List.mem_singleton.1 hp
       rw [←hpy]
       exact hW.1⟩))
    have hb10:w10'.heap[b19]? = some (.cells #[.int .i64 ynum,.int .i64 ygen,.slice yb yn yc,.bool yst,.string ydt] 35 (0,0)):=S9.get 0 rfl
    have f2:=freeOf hb10 2
    have r2:=cellOf hb10 2
    have HS9':=zz2 ⟨S9,hb10⟩
    have HPY:=zz hpy
    clear S9 S8 S7 hb10 HSet HS6 e2 hpy
    go_upto_region 30 with fail
    refine gen_world (fun W11 hW11=>?_)
    have hx11:Ext [b19] w10' W11:=by rw [←hW11]; exact (Ext.refl [b19] w10').setCell _ _ (.inl (List.mem_singleton.2 rfl))
    have hb11:W11.heap[b19]? = some (.cells #[.int .i64 ynum,.int .i64 ygen,.slice sb sn sc,.bool yst,.string ydt] 35 (0,0)):=by rw [←hW11]; exact heap_setCell_same HS9'.out.2 _
    have S10:=HS9'.out.1.upd 0 (Ob.one b19 (.cells #[.int .i64 ynum,.int .i64 ygen,.slice sb sn sc,.bool yst,.string ydt] 35 (0,0))) rfl hx11 (Fr.refl _ _) hb11
    have e0:W11.cell? ⟨b19,0,none⟩=some (.int .i64 ynum):=cellOf hb11 0
    have e1:W11.cell? ⟨b19,1,none⟩=some (.int .i64 ygen):=cellOf hb11 1
    have e2:W11.cell? ⟨b19,2,none⟩=some (.slice sb sn sc):=cellOf hb11 2
    have e3:W11.cell? ⟨b19,3,none⟩=some (.bool yst):=cellOf hb11 3
    have e4:W11.cell? ⟨b19,4,none⟩=some (.string ydt):=cellOf hb11 4
    have hMd:Mp.MapAt Tryz.prog 3 Mp.mkI W11 mk j (mdF PG):=S10.get 2 rfl
    have HS10:=zz2 ⟨S10,hMd⟩
    clear S10 hMd hb11 hx11 hW11 f2 r2 HS9'
    go_wp2_with (first | (at_mapUpdate; refine Mp.wpList_store_mp rfl _ _ _ 68 rfl 35 lawI Mp.mkI_inj Tryz.underlying68 rfl HS10.out.2 (by unfold maxLen; omega) ynum (.agg #[.int .i64 ynum,.int .i64 ygen,.slice sb sn sc,.bool yst,.string ydt]) _ rfl rfl HX.out.2.2.2.2.2.1 ?_; intro w12' hm12 hx12; have HM12:=zz2 ⟨hm12,hx12⟩; clear hm12 hx12; rw [show ∀ a:Act,a.put none undef=a from fun _=>rfl]))
    have hmm12:=HM12.out.1
    rw [show (Value.agg #[.int .i64 ynum,.int .i64 ygen,.slice sb sn sc,.bool yst,.string ydt])=omV py by rw [←HPY.out],show ynum=py.num by rw [←HPY.out],mdF_more] at hmm12
    have S11:=Tr.Sep.tail (HS10.out.1.upd 2 (Mp.oMp Tryz.prog 3 Mp.mkI mk (j+1) (mdF (PG++[py]))) rfl HM12.out.2 (Fr.refl _ _) hmm12)
    go_roundg g
    case measure=>omega
    case rel=>exact⟨j+1,PG++[py],Z++[(Value.slice zb 1 zc,refT (ynum,ygen))],F4++(F3++FA),by omega,by go_num,by rw [HX.out.2.1,List.map_append,List.map_append,HX.out.2.2.2.2.2.2.1,←HPY.out]; rfl,by rw [HX.out.2.1,List.map_append,List.map_append,HX.out.2.2.2.2.2.2.2.1]; rfl,fun y hy=>by
     rcases List.mem_append.1 hy with hy | hy
     ·exact HX.out.2.2.2.2.2.2.2.2 y hy
     ·obtain rfl:=List.mem_singleton.1 hy
      exact⟨sb,sn,sc,by rw [←HPY.out]⟩,S11⟩
   case neg=>
   obtain rfl:gk=0:=by omega
   obtain rfl:j=kn:=by omega
   rw [List.take_of_length_le (by rw [HL.out.2.2]; exact Nat.le_refl _)] at hPG hZ
   have hLn:∀ x∈L,NodesAt wr x.tv x.tree:=oms_nodes (HH.out.1.ext S.ext)
   have hAn:=(oAny.now (S.get 2 rfl)) hLn
   have hZl:Z.length=j:=by
    have:=congrArg List.length hZ
    rw [List.length_map,List.length_map] at this
    rw [this]; exact HL.out.2.2
   have hTr:TreesAt wr (.slice ab j ac) (Z.map (·.2)):=trees_of_row (by rw [hZl]; exact S.get 0 rfl) hAn.2.2.2.1
   have hAr:=array_new _ _ wr hTr (by rw [List.length_map,hZl]; omega) (fun l hl=>by
    rw [hZ] at hl
    obtain⟨z,-,rfl⟩:=List.mem_map.1 hl
    exact⟨(lt_ref _).len,(lt_ref _).s⟩)
   rw [hZ,show (arrayN (LS.map fun y=>refT (refO y))).1=kidsT LS from rfl] at hAr
   have HAr:=zz hAr
   have HPG:=zz2 ⟨hPG,hPGs⟩
   have HSa:=zz S
   clear S hLn hAn hZl hTr hAr hPG hPGs hZ HPk hlt hgj
   go_wp2_with fail
   refine HAr.out.mono ?_
   rintro e w20 ⟨v20,rfl,F20,S20⟩
   obtain⟨kb,kl,kc2,hkv⟩:∃ b n c,v20=.slice b n c:=by
    obtain⟨b,c,h⟩:=tree_slice (oTr.nodes (S20.get 0 rfl))
    exact⟨b,_,c,h⟩
   subst hkv
   have S21:=sep_cat HSa.out S20
   have S22:=Tr.Sep.glue (j:=2) S21 rfl (oAny (F20++FA) (fun W=>(∀ x∈L,NodesAt W x.tv x.tree)→NodesAt W (.slice kb kl kc2) (kidsT LS)∧NodesAt W (.slice pb 1 pc) (refT (at_,0))∧NodesAt W rt.tv rt.tree∧(∀ y∈PG,NodesAt W y.tv y.tree))) (fun k hk=>by
    rcases List.mem_append.1 hk with hk | hk
    ·exact .inl hk
    ·exact .inr hk) (oAny.imp (oAny.both (F:=F20) (Q:=fun W=>NodesAt W (.slice kb kl kc2) (kidsT LS)) (S21.get 0 rfl) (S21.get 3 rfl)) (fun W hW hL=>⟨hW.1,(hW.2 hL).1,(hW.2 hL).2.2.1,(hW.2 hL).2.2.2.2⟩))
   have S23:=sep_pick (L':=[Mp.oMp Tryz.prog 3 Mp.mkI mk j (mdF PG),oAny (F20++FA) (fun W=>(∀ x∈L,NodesAt W x.tv x.tree)→NodesAt W (.slice kb kl kc2) (kidsT LS)∧NodesAt W (.slice pb 1 pc) (refT (at_,0))∧NodesAt W rt.tv rt.tree∧(∀ y∈PG,NodesAt W y.tv y.tree)),Ob.one b13 (.cells #[.int .i64 rnum,.int .i64 rgen,.slice rb9 rl9 rc9,.bool rst,.string rdt] 35 (0,0)),oSl 47 2 (.slice (some ⟨g7,0,none⟩) (n1+2) cap3) (n1+2) (rfC (notesM (m0,m1) L A)),Ob.one (b2+1) (.cells #[.slice none 0 0,.int .i64 0,.int .i64 0] 26 (0,0)),Ob.one b2 (.cells #[.slice vb vn vc,.int .i64 m0,.int .i64 m1] 26 (0,0))]) [1,2,3,4,6,7] S22 (by decide) rfl
   have HSb:=zz S23
   clear S20 S21 S22 S23 HSa HAr
   go_upto_region 34 with fail
   refine gen_world (fun W21 hW21=>?_)
   obtain⟨b22,hb22⟩:∃ p,w20.heap.size=p:=⟨_,rfl⟩
   (try rw [hb22])
   have hx21:Ext [] w20 W21:=by rw [←hW21]; exact (Ext.refl [] w20).alloc _
   have hc21:W21.heap[b22]? = some (.cells #[.int .i64 at_,.int .i64 0,.slice none 0 0,.bool false,.string ⟨#[]⟩] 35 (0,0)):=by rw [←hW21,←hb22]; exact heap_alloc_at _
   have S24:=HSb.out.new hx21 (Ob.one b22 (.cells #[.int .i64 at_,.int .i64 0,.slice none 0 0,.bool false,.string ⟨#[]⟩] 35 (0,0))) hc21 (fun k hk=>by
    obtain rfl:k=b22:=by simpa [Ob.one] using hk
    omega)
   have HSc:=zz S24
   have HTp:=zz (typed_walk kPages (by decide) W21)
   clear S24 hc21 hx21 hW21 hb22 HSb
   go_wp2_with fail
   refine HTp.out.mono ?_
   rintro e w22 ⟨v22,rfl,F22,S25⟩
   have S26:=sep_cat HSc.out S25
   have hAn:=(oAny.now (S26.get 3 rfl)) (oms_nodes (HH.out.1.ext S26.ext))
   have kt:=kok_typed kPages typed_pages (by decide)
   have HSet:=zz (set_new v22 (.slice kb kl kc2) (typedN kPages) (kidsT LS) kKids w22 (oTr.nodes (S26.get 0 rfl)) hAn.1 kt.lt (lt_kids LS) (by decide) (Nat.le_trans (ents_cnt _ _) (Nat.le_trans kt.cnt (by omega))))
   obtain⟨tb2,tn2,tc2,htv⟩:∃ b n c,v22=.slice b n c:=by
    obtain⟨b,c,h⟩:=tree_slice (oTr.nodes (S25.get 0 rfl))
    exact⟨b,_,c,h⟩
   subst htv
   have HSd:=zz (Tr.Sep.tail S26)
   clear S25 S26 hAn kt HTp HSc
   go_wp2_with fail
   refine HSet.out.mono ?_
   rintro e w23 ⟨v23,rfl,F23,S27⟩
   obtain⟨ub,un,uc,huv⟩:∃ b n c,v23=.slice b n c:=by
    obtain⟨b,c,h⟩:=tree_slice (oTr.nodes (S27.get 0 rfl))
    exact⟨b,_,c,h⟩
   subst huv
   have S28:=sep_cat HSd.out S27
   obtain⟨T1,hT1⟩:∃ T,setT (typedN kPages) kKids (kidsT LS)=T:=⟨_,rfl⟩
   have hT1l:Lt T1:=by rw [←hT1]; exact lt_set (kok_typed kPages typed_pages (by decide)).lt (lt_kids LS) (by decide)
   have hT1c:cntE T1≤2:=by rw [←hT1]; have:=cnt_set (s:=kKids) (kok_typed kPages typed_pages (by decide)).lt (lt_kids LS) (by decide); have h2:=(kok_typed kPages typed_pages (by decide)).cnt; omega
   rw [show (setN (typedN kPages) kKids (kidsT LS)).1=T1 from hT1] at S28
   have hb23:w23.heap[b22]? = some (.cells #[.int .i64 at_,.int .i64 0,.slice none 0 0,.bool false,.string ⟨#[]⟩] 35 (0,0)):=S28.get 1 rfl
   have f2:=freeOf hb23 2
   have r2:=cellOf hb23 2
   have HSe:=zz2 ⟨S28,hb23⟩
   have HT1:=zz3 ⟨hT1,hT1l,hT1c⟩
   clear S28 S27 hb23 HSet HSd hT1 hT1l hT1c
   go_upto_region 35 with fail
   refine gen_world (fun W24 hW24=>?_)
   have hx24:Ext [b22] w23 W24:=by rw [←hW24]; exact (Ext.refl [b22] w23).setCell _ _ (.inl (List.mem_singleton.2 rfl))
   have hb24:W24.heap[b22]? = some (.cells #[.int .i64 at_,.int .i64 0,.slice ub un uc,.bool false,.string ⟨#[]⟩] 35 (0,0)):=by rw [←hW24]; exact heap_setCell_same HSe.out.2 _
   have S29:=HSe.out.1.upd 1 (Ob.one b22 (.cells #[.int .i64 at_,.int .i64 0,.slice ub un uc,.bool false,.string ⟨#[]⟩] 35 (0,0))) rfl hx24 (Fr.refl _ _) hb24
   have r2:W24.cell? ⟨b22,2,none⟩=some (.slice ub un uc):=cellOf hb24 2
   have HSf:=zz S29
   clear S29 hb24 hx24 hW24 f2 HSe
   obtain⟨W25,hW25⟩:∃ W,W24.alloc (.cells #[.int .i64 3,.int .i64 j,.int .i64 0,.string ⟨#[]⟩,.slice none 0 0] 41)=W:=⟨_,rfl⟩
   obtain⟨ib,hib2⟩:∃ p,W24.heap.size=p:=⟨_,rfl⟩
   have hx25:Ext [] W24 W25:=by rw [←hW25]; exact (Ext.refl [] W24).alloc _
   have hc25:W25.heap[ib]? = some (.cells #[.int .i64 3,.int .i64 j,.int .i64 0,.string ⟨#[]⟩,.slice none 0 0] 41 (0,0)):=by rw [←hW25,←hib2]; exact heap_alloc_at _
   have hN25:NodesAt W25 (.slice (some ⟨ib,0,none⟩) 1 1) (intT j):=one_nodes (x:=⟨3,j,0,⟨#[]⟩,[]⟩) hc25 rfl (by show -9223372036854775808≤(j:Int)∧(j:Int)≤9223372036854775807; omega) (by show (0:Nat)≤_; omega)
   have S30:=HSf.out.quiet hx25
   have HSet2:=zz (set_new (.slice ub un uc) (.slice (some ⟨ib,0,none⟩) 1 1) T1 (intT j) kCount W25 (oTr.nodes (S30.get 0 rfl)) hN25 HT1.out.2.1 (lt_int _) (by decide) (Nat.le_trans (ents_cnt _ _) (by have:=HT1.out.2.2; omega)))
   have HSg:=zz (Tr.Sep.tail S30)
   clear S30 hN25 hc25 hx25 HSf
   go_wp2_with fail
   (try rw [hW25])
   (try rw [hib2])
   clear hW25 hib2 r2
   refine HSet2.out.mono ?_
   rintro e w26 ⟨v26,rfl,F26,S31⟩
   obtain⟨gb2,gn2,gc2,hgv⟩:∃ b n c,v26=.slice b n c:=by
    obtain⟨b,c,h⟩:=tree_slice (oTr.nodes (S31.get 0 rfl))
    exact⟨b,_,c,h⟩
   subst hgv
   have S32:=sep_cat HSg.out S31
   obtain⟨T2,hT2⟩:∃ T,setT T1 kCount (intT j)=T:=⟨_,rfl⟩
   rw [show (setN T1 kCount (intT j)).1=T2 from hT2] at S32
   have hb26:w26.heap[b22]? = some (.cells #[.int .i64 at_,.int .i64 0,.slice ub un uc,.bool false,.string ⟨#[]⟩] 35 (0,0)):=S32.get 1 rfl
   have f2:=freeOf hb26 2
   have r2:=cellOf hb26 2
   have HSh:=zz2 ⟨S32,hb26⟩
   have HT2:=zz hT2
   clear S32 S31 hb26 HSet2 HSg hT2
   go_upto_region 36 with fail
   refine gen_world (fun W27 hW27=>?_)
   have hx27:Ext [b22] w26 W27:=by rw [←hW27]; exact (Ext.refl [b22] w26).setCell _ _ (.inl (List.mem_singleton.2 rfl))
   have hb27:W27.heap[b22]? = some (.cells #[.int .i64 at_,.int .i64 0,.slice gb2 gn2 gc2,.bool false,.string ⟨#[]⟩] 35 (0,0)):=by rw [←hW27]; exact heap_setCell_same HSh.out.2 _
   have S33:=HSh.out.1.upd 1 (Ob.one b22 (.cells #[.int .i64 at_,.int .i64 0,.slice gb2 gn2 gc2,.bool false,.string ⟨#[]⟩] 35 (0,0))) rfl hx27 (Fr.refl _ _) hb27
   have S34:=Tr.Sep.glue (j:=2) S33 rfl (oAny (F26++(F20++FA)) (fun W=>(∀ x∈L,NodesAt W x.tv x.tree)→NodesAt W (.slice gb2 gn2 gc2) T2∧NodesAt W (.slice pb 1 pc) (refT (at_,0))∧NodesAt W rt.tv rt.tree∧(∀ y∈PG,NodesAt W y.tv y.tree))) (fun k hk=>by
    rcases List.mem_append.1 hk with hk | hk
    ·exact .inl hk
    ·exact .inr hk) (oAny.imp (oAny.both (F:=F26) (Q:=fun W=>NodesAt W (.slice gb2 gn2 gc2) T2) (S33.get 0 rfl) (S33.get 3 rfl)) (fun W hW hL=>⟨hW.1,(hW.2 hL).2⟩))
   have hb13' : W27.heap[b13]? = some (.cells #[.int .i64 rnum,.int .i64 rgen,.slice rb9 rl9 rc9,.bool rst,.string rdt] 35 (0,0)):=S34.get 3 rfl
   have r2:W27.cell? ⟨b13,2,none⟩=some (.slice rb9 rl9 rc9):=cellOf hb13' 2
   have hAn:=(oAny.now (S34.get 2 rfl)) (oms_nodes (HH.out.1.ext S34.ext))
   have hrk:KOk rt.tree 900:=by
    rw [show rt.tree=(rtM (m0,m1) L).tree by rw [←HT.out.1]; rfl]
    exact rtM_kok (m0,m1) L (fun x hx=>⟨(HH.out.2.1 x hx).lt,HH.out.2.2.2.1 x hx⟩)
   have HSet3:=zz (set_new (.slice rb9 rl9 rc9) (.slice pb 1 pc) rt.tree (refT (at_,0)) kPages W27 (by rw [←HT.out.2.1]; exact hAn.2.2.1) hAn.2.1 hrk.lt (lt_ref _) (by decide) (Nat.le_trans (ents_cnt _ _) (Nat.le_trans hrk.cnt (by omega))))
   have HSi:=zz S34
   clear S34 S33 hb13' hAn hrk hb27 hx27 hW27 f2 HSh
   go_wp2_with fail
   refine HSet3.out.mono ?_
   rintro e w28 ⟨v28,rfl,F28,S35⟩
   obtain⟨hb2',hn2,hc2',hhv⟩:∃ b n c,v28=.slice b n c:=by
    obtain⟨b,c,h⟩:=tree_slice (oTr.nodes (S35.get 0 rfl))
    exact⟨b,_,c,h⟩
   subst hhv
   have S36:=sep_cat HSi.out S35
   obtain⟨T3,hT3⟩:∃ T,setT rt.tree kPages (refT (at_,0))=T:=⟨_,rfl⟩
   rw [show (setN rt.tree kPages (refT (at_,0))).1=T3 from hT3] at S36
   have S37:=Tr.Sep.glue (j:=2) S36 rfl (oAny (F28++(F26++(F20++FA))) (fun W=>(∀ x∈L,NodesAt W x.tv x.tree)→NodesAt W (.slice hb2' hn2 hc2') T3∧NodesAt W (.slice gb2 gn2 gc2) T2∧(∀ y∈PG,NodesAt W y.tv y.tree))) (fun k hk=>by
    rcases List.mem_append.1 hk with hk | hk
    ·exact .inl hk
    ·exact .inr hk) (oAny.imp (oAny.both (F:=F28) (Q:=fun W=>NodesAt W (.slice hb2' hn2 hc2') T3) (S36.get 0 rfl) (S36.get 3 rfl)) (fun W hW hL=>⟨hW.1,(hW.2 hL).1,(hW.2 hL).2.2.2⟩))
   have hb28:w28.heap[b13]? = some (.cells #[.int .i64 rnum,.int .i64 rgen,.slice rb9 rl9 rc9,.bool rst,.string rdt] 35 (0,0)):=S37.get 3 rfl
   have f2:=freeOf hb28 2
   have r2:=cellOf hb28 2
   have HSj:=zz2 ⟨S37,hb28⟩
   have HT3:=zz hT3
   clear S37 S36 S35 hb28 HSet3 HSi hT3
   go_upto_region 37 with fail
   refine gen_world (fun W29 hW29=>?_)
   have hx29:Ext [b13] w28 W29:=by rw [←hW29]; exact (Ext.refl [b13] w28).setCell _ _ (.inl (List.mem_singleton.2 rfl))
   have hb29:W29.heap[b13]? = some (.cells #[.int .i64 rnum,.int .i64 rgen,.slice hb2' hn2 hc2',.bool rst,.string rdt] 35 (0,0)):=by rw [←hW29]; exact heap_setCell_same HSj.out.2 _
   have S38:=HSj.out.1.upd 3 (Ob.one b13 (.cells #[.int .i64 rnum,.int .i64 rgen,.slice hb2' hn2 hc2',.bool rst,.string rdt] 35 (0,0))) rfl hx29 (Fr.refl _ _) hb29
   have hb22' : W29.heap[b22]? = some (.cells #[.int .i64 at_,.int .i64 0,.slice gb2 gn2 gc2,.bool false,.string ⟨#[]⟩] 35 (0,0)):=S38.get 0 rfl
   have hne22:b22∉[mk]:=fun h=>by
    obtain rfl:=List.mem_singleton.1 h
    exact S38.apart 0 1 _ _ rfl rfl (by omega) b22 (by simp [Ob.one]) (by simp [Mp.oMp])
   have hne13:b13∉[mk]:=fun h=>by
    obtain rfl:=List.mem_singleton.1 h
    exact S38.apart 3 1 _ _ rfl rfl (by omega) b13 (by simp [Ob.one]) (by simp [Mp.oMp])
   have p0:∀ y:ExS [mk] W29,y.w.cell? ⟨b22,0,none⟩=some (.int .i64 at_):=fun y=>y.cell (cellOf hb22' 0) hne22
   have p1:∀ y:ExS [mk] W29,y.w.cell? ⟨b22,1,none⟩=some (.int .i64 0):=fun y=>y.cell (cellOf hb22' 1) hne22
   have p2:∀ y:ExS [mk] W29,y.w.cell? ⟨b22,2,none⟩=some (.slice gb2 gn2 gc2):=fun y=>y.cell (cellOf hb22' 2) hne22
   have p3:∀ y:ExS [mk] W29,y.w.cell? ⟨b22,3,none⟩=some (.bool false):=fun y=>y.cell (cellOf hb22' 3) hne22
   have p4:∀ y:ExS [mk] W29,y.w.cell? ⟨b22,4,none⟩=some (.string ⟨#[]⟩):=fun y=>y.cell (cellOf hb22' 4) hne22
   have s0:∀ y:ExS [mk] W29,y.w.cell? ⟨b13,0,none⟩=some (.int .i64 rnum):=fun y=>y.cell (cellOf hb29 0) hne13
   have s1:∀ y:ExS [mk] W29,y.w.cell? ⟨b13,1,none⟩=some (.int .i64 rgen):=fun y=>y.cell (cellOf hb29 1) hne13
   have s2:∀ y:ExS [mk] W29,y.w.cell? ⟨b13,2,none⟩=some (.slice hb2' hn2 hc2'):=fun y=>y.cell (cellOf hb29 2) hne13
   have s3:∀ y:ExS [mk] W29,y.w.cell? ⟨b13,3,none⟩=some (.bool rst):=fun y=>y.cell (cellOf hb29 3) hne13
   have s4:∀ y:ExS [mk] W29,y.w.cell? ⟨b13,4,none⟩=some (.string rdt):=fun y=>y.cell (cellOf hb29 4) hne13
   have HSk:=zz S38
   clear S38 hb22' hb29 hx29 hW29 f2 r2 HSj hne22 hne13
   refine wp_region_perm (C:=fun w'=>∃ y:ExS [mk] W29,w' = y.w) [0,1,2,3,4,5,6,7] 9 (by kernel_rfl) (by kernel_rfl) ⟨ExS.mk _ (Ext.weak ((Ext.refl [] W29).drew)),rfl⟩ ?_
   simp only [pick,List.getElem?_toArray,List.getElem?_cons_zero,List.getElem?_cons_succ,List.drop_succ_cons,List.drop_zero]
   repeat (go_big_quiet_step (fail))
   refine wpQuiet_nil ?_
   clear p0 p1 p2 p3 p4 s0 s1 s2 s3 s4
   have hxd:Ext [] W29 W29.drew:=(Ext.refl [] W29).drew
   have S39:=HSk.out.quiet hxd
   obtain⟨w39,hw39⟩:∃ W,W29.drew=W:=⟨_,rfl⟩
   rw [hw39] at S39 hxd ⊢
   obtain⟨nO,hnO⟩:∃ o,(⟨at_,0,.slice gb2 gn2 gc2,false,⟨#[]⟩,T2⟩:Om)=o:=⟨_,rfl⟩
   obtain⟨rO,hrO⟩:∃ o,(⟨rnum,rgen,.slice hb2' hn2 hc2',rst,rdt,T3⟩:Om)=o:=⟨_,rfl⟩
   have hrw:RfWf (rnum,rgen):=by
    have h1:=rtM_wf (root:=(m0,m1)) HH.out.2.1 HH.out.2.2.2.2.2.2
    rw [←HT.out.1] at h1
    have h2:RfWf (rt.num,rt.gen):=h1
    rw [HT.out.2.2.1,HT.out.2.2.2.1] at h2
    exact h2
   have hM1:Mp.MapAt Tryz.prog 3 Mp.mkI w39 mk j (mdF PG):=S39.get 1 rfl
   have HS39:=zz S39
   have HOs:=zz3 ⟨hnO,hrO,hrw⟩
   clear hw39 HSk S39
   refine anyC_one (f:=0) (i:=8) (by kernel_rfl) (by decide) rfl rfl (fun K9 hK9=>?_)
   refine wp_store_mp _ _ _ 68 rfl 35 lawI Mp.mkI_inj Tryz.underlying68 rfl hM1 (by unfold maxLen; omega) at_ (.agg #[.int .i64 at_,.int .i64 0,.slice gb2 gn2 gc2,.bool false,.string ⟨#[]⟩]) _ rfl rfl (keyI (by omega)) ?_
   intro w40 hm40 hx40
   rw [show (Value.agg #[.int .i64 at_,.int .i64 0,.slice gb2 gn2 gc2,.bool false,.string ⟨#[]⟩])=omV nO by rw [←hnO],show at_=nO.num by rw [←hnO],mdF_more] at hm40
   refine hK9 _ _ ⟨ExS.mk w40 (hxd.weak.trans hx40),rfl⟩ ?_
   clear hK9 K9 hxd
   refine⟨by kernel_rfl,?_⟩
   have S40:=HS39.out.upd 1 (Mp.oMp Tryz.prog 3 Mp.mkI mk (j+1) (mdF (PG++[nO]))) rfl hx40 (Fr.refl _ _) hm40
   have HS40:=zz S40
   clear S40 hx40 hM1
   refine Mp.wpList_store_mp rfl _ _ _ 68 rfl 35 lawI Mp.mkI_inj Tryz.underlying68 rfl hm40 (by unfold maxLen; omega) rnum (.agg #[.int .i64 rnum,.int .i64 rgen,.slice hb2' hn2 hc2',.bool rst,.string rdt]) _ rfl rfl (keyI hrw.1) ?_
   intro w41 hm41 hx41
   rw [show (Value.agg #[.int .i64 rnum,.int .i64 rgen,.slice hb2' hn2 hc2',.bool rst,.string rdt])=omV rO by rw [←hrO],show rnum=rO.num by rw [←hrO],mdF_more] at hm41
   rw [show ∀ a:Act,a.put none undef=a from fun _=>rfl]
   go_wp2_with fail
   refine NoPanic.normal ?_
   obtain⟨M,hM⟩:∃ l,PG++[nO]++[rO]=l:=⟨_,rfl⟩
   rw [hM] at hm41
   have S41:=HS40.out.upd 1 (Mp.oMp Tryz.prog 3 Mp.mkI mk (j+1+1) (mdF M)) rfl hx41 (Fr.refl _ _) hm41
   have hb41:w41.heap[b13]? = some (.cells #[.int .i64 rnum,.int .i64 rgen,.slice hb2' hn2 hc2',.bool rst,.string rdt] 35 (0,0)):=S41.get 3 rfl
   have d0:w41.cell? ⟨b13,0,none⟩=some (.int .i64 rnum):=cellOf hb41 0
   have d1:w41.cell? ⟨b13,1,none⟩=some (.int .i64 rgen):=cellOf hb41 1
   have d2:w41.cell? ⟨b13,2,none⟩=some (.slice hb2' hn2 hc2'):=cellOf hb41 2
   have d3:w41.cell? ⟨b13,3,none⟩=some (.bool rst):=cellOf hb41 3
   have d4:w41.cell? ⟨b13,4,none⟩=some (.string rdt):=cellOf hb41 4
   have HOf:=zz (of_walk ⟨rnum,rgen,.slice hb2' hn2 hc2',rst,rdt,T3⟩ w41 ⟨_,_,_,rfl⟩)
   have hMs:Slc M:=fun x hx=>by
    rw [←hM] at hx
    rcases List.mem_append.1 hx with hx | hx
    ·rcases List.mem_append.1 hx with hx | hx
     ·exact HPG.out.2 x hx
     ·obtain rfl:=List.mem_singleton.1 hx
      exact⟨gb2,gn2,gc2,by rw [←hnO]⟩
    ·obtain rfl:=List.mem_singleton.1 hx
     exact⟨hb2',hn2,hc2',by rw [←hrO]⟩
   have hMb:M.map bare=(madeM (m0,m1) L A).map bare:=by
    rw [←hM,List.map_append,List.map_append,HPG.out.1,madeM,List.map_append,HT.out.2.2.2.2.2.2.2]
    have e1:(LS.map fun y=>bare (pgO (at_,0) y))=((listM (m0,m1) L A).map (pgO (at_,0))).map bare:=by
     rw [←HL.out.2.1,List.map_map,List.map_map]; rfl
    have e2:bare nO=bare (nodeO (at_,0) (listM (m0,m1) L A)):=by
     rw [←hnO,←HL.out.2.1]
     unfold nodeO
     rw [kidsT_bare,List.length_map,HL.out.2.2,HT1.out.1,HT2.out]
     rfl
    have e3:bare rO=bare (rootO (at_,0) (rtM (m0,m1) L)):=by
     rw [←hrO,←HT.out.1]
     unfold rootO
     rw [show (bare rt).tree=rt.tree from rfl,HT3.out]
     unfold bare
     rw [←HT.out.2.2.1,←HT.out.2.2.2.1,←HT.out.2.2.2.2.1,←HT.out.2.2.2.2.2.1]
    rw [e1,List.append_assoc]
    congr 1
    show [bare nO]++[bare rO]=[bare _,bare _]
    rw [e2,e3]
    rfl
   have hMn:∀ W,((∀ x∈L,NodesAt W x.tv x.tree)→NodesAt W (.slice hb2' hn2 hc2') T3∧NodesAt W (.slice gb2 gn2 gc2) T2∧(∀ y∈PG,NodesAt W y.tv y.tree))→(∀ x∈L,NodesAt W x.tv x.tree)→∀ y∈M,NodesAt W y.tv y.tree:=fun W hW hL y hy=>by
    have h:=hW hL
    rw [←hM] at hy
    rcases List.mem_append.1 hy with hy | hy
    ·rcases List.mem_append.1 hy with hy | hy
     ·exact h.2.2 y hy
     ·obtain rfl:=List.mem_singleton.1 hy
      rw [←hnO]; exact h.2.1
    ·obtain rfl:=List.mem_singleton.1 hy
     rw [←hrO]; exact h.1
   have hMl:M.length=j+2:=by
    have:=congrArg List.length HPG.out.1
    rw [List.length_map,List.length_map] at this
    rw [←hM,List.length_append,List.length_append,this,HL.out.2.2]; rfl
   have hrr:refO (rtM (m0,m1) L)=(rnum,rgen):=by
    rw [←HT.out.1,←HT.out.2.2.1,←HT.out.2.2.2.1]; rfl
   have S42:=S41.upd 2 (oAny (F28++(F26++(F20++FA))) (fun W=>(∀ x∈L,NodesAt W x.tv x.tree)→∀ y∈M,NodesAt W y.tv y.tree)) rfl (Ext.refl _ _) (Fr.refl _ _) (oAny.imp (S41.get 2 rfl) hMn)
   have HMM:=zz4 ⟨hMs,hMb,hMl,hrr⟩
   have HS42:=zz S42
   clear S41 S42 hb41 hm40 hm41 hx41 hMs hMb hMn hMl hrr hnO hrO hM HS39 HS40 hrw
   go_wp2_with fail
   refine HOf.out.mono ?_
   rintro e w42 ⟨rfl,hx42⟩
   have HS43:=zz (HS42.out.quiet hx42)
   clear hx42 HOf HS42 d0 d1 d2 d3 d4
   go_upto_region 39 with fail
   refine gen_world (fun W43 hW43=>?_)
   obtain⟨b23,hb23⟩:∃ p,w42.heap.size=p:=⟨_,rfl⟩
   (try rw [hb23])
   have hx43:Ext [] w42 W43:=by rw [←hW43]; exact (Ext.refl [] w42).alloc _
   have hc43:W43.heap[b23]? = some (.cells #[.slice none 0 0,.int .i64 rnum,.int .i64 rgen] 26 (0,0)):=by rw [←hW43,←hb23]; exact heap_alloc_at _
   have S44:=(HS43.out.new hx43 (Ob.one b23 (.cells #[.slice none 0 0,.int .i64 rnum,.int .i64 rgen] 26 (0,0))) hc43 (fun k hk=>by
    obtain rfl:k=b23:=by simpa [Ob.one] using hk
    omega)).new (Ext.refl _ _) (oSl 35 5 (.slice none 0 0) (keepL M (L.take 0)).length (omsC (keepL M (L.take 0)))) (World.ownsRow_nil _ _ _ _) (fun q hq=>by simp [oSl,Value.ownBlock] at hq)
   have S45:Sep w W43 [oSl 35 5 (.slice none 0 0) (keepL M (L.take 0)).length (omsC (keepL M (L.take 0))),Ob.one b23 (.cells #[.slice none 0 0,.int .i64 rnum,.int .i64 rgen] 26 (0,0)),Mp.oMp Tryz.prog 3 Mp.mkI mk (j+1+1) (mdF M),oAny (F28++(F26++(F20++FA))) (fun W=>(∀ x∈L,NodesAt W x.tv x.tree)→∀ y∈M,NodesAt W y.tv y.tree),oSl 47 2 (.slice (some ⟨g7,0,none⟩) (n1+2) cap3) (n1+2) (rfC (notesM (m0,m1) L A)),Ob.one (b2+1) (.cells #[.slice none 0 0,.int .i64 0,.int .i64 0] 26 (0,0))]:=sep_pick [0,1,3,4,6,7] S44 (by decide) rfl
   have hb2' : W43.heap[b2]? = some (.cells #[.slice vb vn vc,.int .i64 m0,.int .i64 m1] 26 (0,0)):=S44.get 8 rfl
   have q0:W43.cell? ⟨b2,0,none⟩=some (.slice vb vn vc):=cellOf hb2' 0
   have HS45:=zz S45
   clear S44 S45 hc43 hx43 hW43 hb23 hb2' HS43
   have hvnb:vn≤1000:=by have h1:=HH.out.2.2.2.2.1; have h2:=HH.out.2.2.2.2.2.1; omega
   go_wp2_with fail
   clear q0
   go_loopg [171] vn (fun g iv wr=>∃ (j3:Nat) (kv:Value),g+j3=vn∧iv=.int .i64 j3∧Sep w wr [oSl 35 5 kv (keepL M (L.take j3)).length (omsC (keepL M (L.take j3))),Ob.one b23 (.cells #[kv,.int .i64 rnum,.int .i64 rgen] 26 (0,0)),Mp.oMp Tryz.prog 3 Mp.mkI mk (j+1+1) (mdF M),oAny (F28++(F26++(F20++FA))) (fun W=>(∀ x∈L,NodesAt W x.tv x.tree)→∀ y∈M,NodesAt W y.tv y.tree),oSl 47 2 (.slice (some ⟨g7,0,none⟩) (n1+2) cap3) (n1+2) (rfC (notesM (m0,m1) L A)),Ob.one (b2+1) (.cells #[.slice none 0 0,.int .i64 0,.int .i64 0] 26 (0,0))])
   case atStart=>exact⟨0,_,by omega,rfl,HS45.out⟩
   case round=>
    clear HS45
    obtain⟨j3,kv,hgj,rfl,S⟩:=hrel
    by_cases hlt:j3<vn
    case pos=>
     obtain⟨g,rfl⟩:∃ g,gk=g+1:=⟨gk - 1,by omega⟩
     have hltz:(j3:Int)<(vn:Int):=by omega
     have hil:j3<L.length:=by rw [HH.out.2.2.2.2.2.1]; exact hlt
     obtain⟨bL,oL,heq,n1',n2',n3',n4',n5',hN⟩:∃ b o,vb=some ⟨b,o,none⟩∧OmAt wr b (o+j3*5) (L[j3]'hil):=by
      obtain⟨base,cap,he,-,hT⟩:=HH.out.1.ext S.ext
      have he:vb=base:=by injection he
      obtain⟨b,o,h1,h2⟩:=hT j3 hil
      exact⟨b,o,he.trans h1,h2⟩
     subst heq
     have htk:keepL M (L.take (j3+1))=keepL M (L.take j3)++(if hasN M (L[j3]'hil).num=true then [] else [L[j3]'hil]):=by
      rw [List.take_succ_eq_append_getElem hil,keepL,List.filter_append]
      congr 1
      by_cases hh:hasN M (L[j3]'hil).num=true <;> simp [hh]
     have hxw:=HH.out.2.1 _ (List.getElem_mem hil)
     generalize L[j3]'hil=x at *
     obtain⟨xb2,xc2,hxv⟩:=tree_slice hN
     obtain⟨xnum,xgen,xtv,xst,xdt,xtr⟩:=x
     have hxv:xtv=.slice xb2 xtr.length xc2:=hxv
     subst hxv
     obtain⟨xn2,hxn2⟩:∃ n,xtr.length=n:=⟨_,rfl⟩
     rw [hxn2] at n3' htk
     dsimp only at n1' n2' n3' n4' n5' htk
     have hkl:=keyI hxw.num
     obtain⟨kn2,hkn2⟩:∃ n,(keepL M (L.take j3)).length=n:=⟨_,rfl⟩
     have hkb:kn2≤1000:=by
      have h1:=List.length_filter_le (fun x=>!hasN M x.num) (L.take j3)
      have h2:=HH.out.2.2.2.2.1
      rw [List.length_take] at h1
      have:kn2≤min j3 L.length:=by rw [←hkn2]; exact h1
      omega
     rw [hkn2] at S
     obtain⟨ka,kc,rfl⟩:=row_slice (S.get 0 rfl:wr.ownsRow 0 35 5 kv kn2 (omsC (keepL M (L.take j3))))
     have HX:=zz4 ⟨S,htk,hkn2,hkl⟩
     clear S htk hkn2 hkl hxw hN hxn2
     go_upto_region 42 with fail
     refine gen_world (fun V hV=>?_)
     obtain⟨b25,hb25⟩:∃ p,wr.heap.size=p:=⟨_,rfl⟩
     (try rw [hb25])
     have hxV:Ext [] wr V:=by rw [←hV]; exact (Ext.refl [] wr).alloc _
     have hcV:V.heap[b25]? = some (.cells #[.int .i64 xnum,.int .i64 xgen,.slice xb2 xn2 xc2,.bool xst,.string xdt] 35 (0,0)):=by rw [←hV,←hb25]; exact heap_alloc_at _
     have e0:V.cell? ⟨b25,0,none⟩=some (.int .i64 xnum):=cellOf hcV 0
     have S1:=HX.out.1.quiet hxV
     have hlook:=(S1.get 2 rfl:Mp.MapAt Tryz.prog 3 Mp.mkI V mk (j+1+1) (mdF M)).look_ok lawI Tryz.underlying68 (zeroObj V) (x:=xnum) HX.out.2.2.2
     rw [mdF_none] at hlook
     obtain⟨z1,z2,z3,z4,z5,z6,z7,hz⟩:∃ (a b:Int) (c:Option Addr) (d e:Nat) (f:Bool) (g:ByteArray),(mdF M xnum).getD (.agg #[.int .i64 0,.int .i64 0,.slice none 0 0,.bool false,.string ⟨#[]⟩])=.agg #[.int .i64 a,.int .i64 b,.slice c d e,.bool f,.string g]:=by
      cases hmd:mdF M xnum with
      | none=>exact⟨0,0,none,0,0,false,⟨#[]⟩,rfl⟩
      | some v=>
       obtain⟨z,hz,hv⟩:=obF_md HMM.out.1 xnum v hmd |> fun⟨z,h1,h2⟩=>(⟨z,h2,h1⟩:∃ z:So.Os,z.num=xnum∧v=So.osV z)
       exact⟨z.num,z.gen,z.tb,z.tn,z.tc,z.st,z.dt,by rw [hv]; rfl⟩
     rw [hz] at hlook
     obtain⟨hs,hhs⟩:∃ b,hasN M xnum=b:=⟨_,rfl⟩
     rw [hhs] at hlook
     have HV:=zz3 ⟨S1,hcV,hhs⟩
     clear S1 hcV hxV hV hb25 hhs hz n1' n2' n3' n4' n5'
     go_upto_region 43 with fail
     refine gen_world (fun V2 hV2=>?_)
     have hxV2:Ext [] V V2:=by rw [←hV2]; exact (Ext.refl [] V).alloc _
     have S2:=HV.out.1.quiet hxV2
     have hc2':=hxV2.keep HV.out.2.1 (by simp)
     have hg2:V2.heap[b23]? = some (.cells #[.slice ka kn2 kc,.int .i64 rnum,.int .i64 rgen] 26 (0,0)):=S2.get 1 rfl
     have hhs:=HV.out.2.2
     have htk:=HX.out.2.1
     rw [hhs] at htk
     clear hxV2 hV2 hlook e0
     cases hs with
     | true=>
      rw [if_pos rfl,List.append_nil] at htk
      have HS2:=zz2 ⟨S2,htk⟩
      clear S2 hc2' hg2 hhs htk HV
      go_wp2_with fail
      go_roundg g
      case measure=>omega
      case rel=>exact⟨j3+1,.slice ka kn2 kc,by omega,by go_num,by rw [HS2.out.2,HX.out.2.2.1]; exact HS2.out.1⟩
     | false=>
      rw [if_neg (by simp)] at htk
      have e0:V2.cell? ⟨b25,0,none⟩=some (.int .i64 xnum):=cellOf hc2' 0
      have e1:V2.cell? ⟨b25,1,none⟩=some (.int .i64 xgen):=cellOf hc2' 1
      have e2:V2.cell? ⟨b25,2,none⟩=some (.slice xb2 xn2 xc2):=cellOf hc2' 2
      have e3:V2.cell? ⟨b25,3,none⟩=some (.bool xst):=cellOf hc2' 3
      have e4:V2.cell? ⟨b25,4,none⟩=some (.string xdt):=cellOf hc2' 4
      have g0:=cellOf hg2 0
      have fg0:=freeOf hg2 0
      have hkr:V2.ownsRow 0 35 5 (.slice ka kn2 kc) kn2 (omsC (keepL M (L.take j3))):=S2.get 0 rfl
      have hne:(Value.slice ka kn2 kc).ownBlock≠some b23:=fun e=>S2.apart 0 1 _ _ rfl rfl (by omega) b23 (by simp [oSl,e]) (by simp [Ob.one])
      have HS2:=zz5 ⟨S2,hkr,hg2,hne,htk⟩
      clear S2 hkr hg2 hne htk hc2' hhs HV
      go_wp2_with (first | (at_builtin; refine wpList_append_lies _ rfl _ _ 22 rfl 0 35 i0 _ 5 64 Tryz.underlying22 hig hi0 hi1 hi2 rfl (by decide) (.slice ka kn2 kc) kn2 _ rfl (World.ownsRow.alloc HS2.out.2.1 _) ⟨V2.heap.size,0,none⟩ 1 1 [.int .i64 xnum,.int .i64 xgen,.slice xb2 xn2 xc2,.bool xst,.string xdt] rfl rfl (World.news_of_block (heap_alloc_at (w:=V2) _)) (by simp [Value.oneCell']) (by decide) (by unfold maxLen; omega) (by omega) (by omega) (V2.heap.size+1) (by simp) ?_; intro g6 cap2 w9 hown1 hgrow hat6 hlt6; have hb9:=grown_keep hgrow (heap_alloc_old _ HS2.out.2.2.1) HS2.out.2.2.2.1; have e9:=cellOf hb9 0; have f9:=freeOf hb9 0; have HGr:=zz4 ⟨hown1,hgrow,hat6,hb9⟩; clear hown1 hgrow hat6 hlt6 hb9 g0 fg0 e0 e1 e2 e3 e4))
      have Pl:=push_local (cap:=cap2) (n:=kn2+1) HGr.out.2.1 HGr.out.2.2.1
      have S3:=HS2.out.1.upd 0 (oSl 35 5 (.slice (some ⟨g6,0,none⟩) (kn2+1) cap2) (keepL M (L.take (j3+1))).length (omsC (keepL M (L.take (j3+1))))) rfl Pl.1 Pl.2 (by
       show World.ownsRow _ 0 35 5 _ _ _
       rw [HS2.out.2.2.2.2,omsC_append,List.length_append,HX.out.2.2.1]
       exact HGr.out.1)
      have S4:=S3.upd 1 (Ob.one b23 (.cells #[.slice (some ⟨g6,0,none⟩) (kn2+1) cap2,.int .i64 rnum,.int .i64 rgen] 26 (0,0))) rfl ((Ext.refl [b23] w9).setCell ⟨b23,0,none⟩ (.slice (some ⟨g6,0,none⟩) (kn2+1) cap2) (.inl (List.mem_singleton.2 rfl))) (Fr.refl _ _) (heap_setCell_same HGr.out.2.2.2 _)
      have HS4:=zz S4
      clear S3 S4 Pl e9 f9
      go_roundg g
      case measure=>omega
      case rel=>exact⟨j3+1,_,by omega,by go_num,HS4.out⟩
    case neg=>
    obtain rfl:gk=0:=by omega
    obtain rfl:j3=vn:=by omega
    rw [List.take_of_length_le (by rw [HH.out.2.2.2.2.2.1]; exact Nat.le_refl _)] at S
    obtain⟨K,hK⟩:∃ l,keepL M L=l:=⟨_,rfl⟩
    rw [hK] at S
    obtain⟨kn3,hkn3⟩:∃ n,K.length=n:=⟨_,rfl⟩
    rw [hkn3] at S
    obtain⟨ka,kc,rfl⟩:=row_slice (S.get 0 rfl:wr.ownsRow 0 35 5 kv kn3 (omsC K))
    have hg:wr.heap[b23]? = some (.cells #[.slice ka kn3 kc,.int .i64 rnum,.int .i64 rgen] 26 (0,0)):=S.get 1 rfl
    have k0:∀ y:Ex wr,y.w.cell? ⟨b23,0,none⟩=some (.slice ka kn3 kc):=fun y=>y.cell (cellOf hg 0)
    have hKL:∀ x∈K,x∈L:=fun x hx=>by rw [←hK] at hx; exact (List.mem_filter.1 hx).1
    have hKs:Slc K:=fun x hx=>by
     obtain⟨b,c,h⟩:=tree_slice (oms_nodes HH.out.1 x (hKL x hx))
     exact⟨b,_,c,h⟩
    have hkb:kn3≤1000:=by
     have h1:=List.length_filter_le (fun x=>!hasN M x.num) L
     have h2:=HH.out.2.2.2.2.1
     have h3:(List.filter (fun x=>!hasN M x.num) L).length=kn3:=by rw [←hkn3,←hK]; rfl
     omega
    have HK:=zz5 ⟨S,hK,hkn3,hKL,hKs⟩
    clear S hK hkn3 hKL hKs hg hlt hgj
    go_upto_region 46 with fail
    refine wp_region_perm (C:=fun w'=>∃ y:Ex wr,w' = y.w) [0,1,2] 4 (by kernel_rfl) (by kernel_rfl) ⟨Ex.mk _ ((Ext.refl [] wr).drew),rfl⟩ ?_
    simp only [pick,List.getElem?_toArray,List.getElem?_cons_zero,List.getElem?_cons_succ,List.drop_succ_cons,List.drop_zero]
    repeat (go_big_quiet_step (fail))
    refine wpQuiet_nil ?_
    clear k0
    refine anyC_one (f:=0) (i:=3) (by kernel_rfl) (by decide) rfl rfl (fun K9 hK9=>?_)
    go_wp2_with fail
    refine (valsO_walk mk _).mono ?_
    rintro e w46 ⟨rfl,rfl⟩
    go_wp2_with fail
    refine hK9 _ _ ⟨Ex.mk _ ((Ext.refl [] wr).drew.alloc _),rfl⟩ ?_
    clear hK9 K9
    refine⟨by kernel_rfl,?_⟩
    obtain⟨W46,hW46⟩:∃ W,(wr.alloc (.cells #[.map (some mk)] 68)).drew=W:=⟨_,rfl⟩
    (try rw [hW46])
    have hx46:Ext [] wr W46:=by rw [←hW46]; exact ((Ext.refl [] wr).alloc _).drew
    have hc46:W46.heap[wr.heap.size]? = some (.cells #[.map (some mk)] 68 (0,0)):=by rw [←hW46]; exact heap_alloc_at (w:=wr) _
    have S46:=HK.out.1.quiet hx46
    have hAp:=appO_walk w W46 (.slice ka kn3 kc) kn3 (omsC K) _ S46 (valsO_iter mk (j+1+1) wr.heap.size (mdF M) (obF_md HMM.out.1)) (Go.Proofs.enters_of Tryz.func72 (by kernel_rfl) rfl) (fun k hk=>⟨Mp.oMp Tryz.prog 3 Mp.mkI mk (j+1+1) (mdF M),by simp,by simpa [Mp.oMp] using hk⟩) (fun W hx=>⟨hx.keep hc46 (by simp),(S46.get 2 rfl:Mp.MapAt Tryz.prog 3 Mp.mkI W46 mk (j+1+1) (mdF M)).ext hx (by simp)⟩) (fun pre hch=>by
     obtain⟨h1,h2⟩:=nxv_nodup hch
     have h3:=List.Nodup.length_le_of_subset h1 (fun x hx=>(md_mem HMM.out.1 x).1 (h2 x hx):pre ⊆ (lastsO M).map osOf)
     rw [List.length_map] at h3
     have h4:=lasts_len M
     have h5:=HMM.out.2.2.1
     omega)
    have HAp:=zz hAp
    clear hAp S46 hx46 hc46
    go_wp2_with fail
    (try rw [hW46])
    refine HAp.out.mono ?_
    clear hW46
    rintro e w47 ⟨v47,ys,rfl,hch,hdn,S47⟩
    obtain⟨yl,hyl⟩:∃ n,kn3+ys.length=n:=⟨_,rfl⟩
    rw [hyl] at S47
    obtain⟨ya,yc,rfl⟩:=row_slice (S47.get 0 rfl:w47.ownsRow 0 35 5 v47 yl (omsC K++osC ys))
    have hg47:w47.heap[b23]? = some (.cells #[.slice ka kn3 kc,.int .i64 rnum,.int .i64 rgen] 26 (0,0)):=S47.get 1 rfl
    have f0:=freeOf hg47 0
    have c0:=cellOf hg47 0
    have HY:=zz5 ⟨S47,hg47,hch,hdn,hyl⟩
    clear S47 hg47 hch hdn hyl HAp
    go_wp2_with fail
    refine NoPanic.normal ?_
    go_upto_region 47 with fail
    refine gen_world (fun W48 hW48=>?_)
    have hx48:Ext [b23] w47 W48:=by rw [←hW48]; exact (Ext.refl [b23] w47).setCell _ _ (.inl (List.mem_singleton.2 rfl))
    have hb48:W48.heap[b23]? = some (.cells #[.slice ya yl yc,.int .i64 rnum,.int .i64 rgen] 26 (0,0)):=by rw [←hW48]; exact heap_setCell_same HY.out.2.1 _
    have S48:=HY.out.1.upd 1 (Ob.one b23 (.cells #[.slice ya yl yc,.int .i64 rnum,.int .i64 rgen] 26 (0,0))) rfl hx48 (Fr.refl _ _) hb48
    have hsr:=strict_rise HSN.out
    have hXs:Slc (K++lastsO M):=fun x hx=>by
     rcases List.mem_append.1 hx with hx | hx
     ·exact HK.out.2.2.2.2 x hx
     ·exact HMM.out.1 x (lasts_sub M x hx)
    have hXp:=keep_apart (M:=M) hsr
    rw [HK.out.2.1] at hXp
    have hMw:∀ x∈(lastsO M).map osOf,-9223372036854775808≤x.num∧x.num≤9223372036854775807:=fun x hx=>by
     obtain⟨y,hy,rfl⟩:=List.mem_map.1 hx
     have hym:=lasts_sub M y hy
     rw [osOf_num (HMM.out.1 y hym)]
     have h1:bare y∈(madeM (m0,m1) L A).map bare:=by rw [←HMM.out.2.1]; exact List.mem_map_of_mem hym
     exact made_wf HH.out.2.1 (fun x hx=>⟨(HH.out.2.1 x hx).lt,HH.out.2.2.2.1 x hx⟩) HH.out.2.2.2.2.2.2 (bare y) h1
    have hyp:=nxv_perm HY.out.2.2.1 HY.out.2.2.2.1 (lasts_nodup HMM.out.1) (md_mem HMM.out.1) hMw
    have hlp:((K++lastsO M).map osOf).Perm (K.map osOf++ys):=by rw [List.map_append]; exact hyp.append_left _
    obtain⟨E,hEp,hEs⟩:=sorts (So.ltOf' ) (fun a b c h1 h2=>by simp [So.ltOf'] at h1 h2 ⊢; omega) ((K++lastsO M).map osOf) (List.pairwise_map.2 (hXp.imp_of_mem fun {a b} ha hb hab=>by
     simp only [So.ltOf',osOf_num (hXs a ha),osOf_num (hXs b hb),decide_eq_true_eq]
     omega))
    have hrw:W48.ownsRow 0 35 5 (.slice ya yl yc) (K.map osOf++ys).length ((K.map osOf++ys).flatMap So.encO):=by
     have h1:W48.ownsRow 0 35 5 (.slice ya yl yc) yl (omsC K++osC ys):=S48.get 0 rfl
     rw [←oms_os HK.out.2.2.2.2,←osC_append] at h1
     rw [List.length_append,List.length_map,HK.out.2.2.1,HY.out.2.2.2.2]
     exact h1
    have hSo:=So.sortO (K.map osOf++ys) E _ W48 hrw (hEp.trans hlp) (hEs.imp fun {a b} h=>by rw [So.lt1]; exact h) (by
     have h4:=lasts_len M
     have h5:=HMM.out.2.2.1
     have h6:=hyp.length_eq
     rw [List.length_map] at h6
     rw [List.length_append,List.length_map,HK.out.2.2.1]
     omega)
    have c0:W48.cell? ⟨b23,0,none⟩=some (.slice ya yl yc):=cellOf hb48 0
    obtain⟨ML,hMLp,hMLe⟩:=perm_lift osOf hEp (K++lastsO M) rfl
    have hMLs:Slc ML:=fun x hx=>hXs x (hMLp.mem_iff.1 hx)
    have HSo:=zz hSo
    have HML:=zz4 ⟨hMLp,hMLe,hMLs,hEs⟩
    have HS48:=zz S48
    clear S48 hb48 hx48 hW48 hsr hXs hXp hMw hyp hlp hEp hEs hrw hSo hMLp hMLe hMLs f0
    go_wp2_with fail
    refine HSo.out.mono ?_
    rintro e w49 ⟨rfl,hx49,hC49⟩
    have hro:(oSl 35 5 (.slice ya yl yc) yl (omsC K++osC ys)).P W48:=HS48.out.get 0 rfl
    have S49:=HS48.out.upd 0 (oAny (Value.slice ya yl yc).ownBlock.toList (fun W=>So.Cells W 5 So.encO (.slice ya yl yc) E)) rfl hx49 (Fr.refl _ _) ⟨fun k hk=>Nat.lt_of_lt_of_le ((oSl 35 5 (.slice ya yl yc) yl (omsC K++osC ys)).lt hro k hk) hx49.size,fun w' hw'=>cells_same hC49 (fun g hg=>hw' g (by simp [hg])) (fun g o h=>by rw [h]; rfl)⟩
    have hnr:w49.ownsRow 0 47 2 (.slice (some ⟨g7,0,none⟩) (n1+2) cap3) (n1+2) (rfC (notesM (m0,m1) L A)):=S49.get 4 rfl
    have hnl:(notesM (m0,m1) L A).length=n1+2:=by
     have:=hnr.1
     rw [rfC_len2] at this
     omega
    obtain⟨E2,hE2p,hE2s⟩:=sorts (fun x y:Rf=>decide (x.1<y.1∨x.1=y.1∧x.2<y.2)) (fun a b c h1 h2=>by simp at h1 h2 ⊢; omega) (notesM (m0,m1) L A) (notes_apart HSN.out)
    have hSn:=So.sortN2 (notesM (m0,m1) L A) E2 (.slice (some ⟨g7,0,none⟩) (n1+2) cap3) w49 (by rw [hnl]; exact hnr) hE2p (hE2s.imp fun {a b} h=>by rw [So.lt2]; exact h) (by omega)
    have hb49:w49.heap[b23]? = some (.cells #[.slice ya yl yc,.int .i64 rnum,.int .i64 rgen] 26 (0,0)):=S49.get 1 rfl
    have HSn:=zz hSn
    have HN2:=zz3 ⟨hE2p,hE2s,hnl⟩
    have HS49:=zz S49
    clear S49 hro hnr hnl hE2p hE2s hSn hb49 hx49 hC49 HSo HS48 c0
    go_wp2_with fail
    refine HSn.out.mono ?_
    rintro e w50 ⟨rfl,hx50,hC50⟩
    have hno:(oSl 47 2 (.slice (some ⟨g7,0,none⟩) (n1+2) cap3) (n1+2) (rfC (notesM (m0,m1) L A))).P w49:=HS49.out.get 4 rfl
    have S50:=HS49.out.upd 4 (oAny (Value.slice (some ⟨g7,0,none⟩) (n1+2) cap3).ownBlock.toList (fun W=>So.Cells W 2 So.encN (.slice (some ⟨g7,0,none⟩) (n1+2) cap3) E2)) rfl hx50 (Fr.refl _ _) ⟨fun k hk=>Nat.lt_of_lt_of_le ((oSl 47 2 (.slice (some ⟨g7,0,none⟩) (n1+2) cap3) (n1+2) (rfC (notesM (m0,m1) L A))).lt hno k hk) hx50.size,fun w' hw'=>cells_same hC50 (fun g hg=>hw' g (by simp [hg])) (fun g o h=>by rw [h]; rfl)⟩
    have hb50:w50.heap[b23]? = some (.cells #[.slice ya yl yc,.int .i64 rnum,.int .i64 rgen] 26 (0,0)):=S50.get 1 rfl
    have h4' : w50.heap[b2+1]? = some (.cells #[.slice none 0 0,.int .i64 0,.int .i64 0] 26 (0,0)):=S50.get 5 rfl
    have c0:w50.cell? ⟨b23,0,none⟩=some (.slice ya yl yc):=cellOf hb50 0
    have c1:w50.cell? ⟨b23,1,none⟩=some (.int .i64 rnum):=cellOf hb50 1
    have c2:w50.cell? ⟨b23,2,none⟩=some (.int .i64 rgen):=cellOf hb50 2
    have r0:=cellOf h4' 0
    have r1:=cellOf h4' 1
    have r2:=cellOf h4' 2
    have f0:=freeOf h4' 0
    have f1:=freeOf h4' 1
    have f2:=freeOf h4' 2
    have HS50:=zz2 ⟨S50,h4'⟩
    clear S50 hno hb50 h4' hx50 hC50 HSn HS49
    go_wp2_with fail
    refine bodyPost_ret (results_row_tmp rfl _ _ (b2+1) 26 #[.slice ya yl yc,.int .i64 rnum,.int .i64 rgen] (0,0) _ rfl (heap_setCell_same (heap_setCell_same (heap_setCell_same HS50.out.2 _) _) _) Tryz.underlying26 rfl sizeGraph) rfl ?_
    obtain⟨W9,hW9⟩:∃ W,((w50.setCell ⟨b2+1,0,none⟩ (.slice ya yl yc)).setCell ⟨b2+1,1,none⟩ (.int .i64 rnum)).setCell ⟨b2+1,2,none⟩ (.int .i64 rgen)=W:=⟨_,rfl⟩
    (try rw [hW9])
    have hx9:Ext [b2+1] w50 W9:=by rw [←hW9]; exact ((((Ext.refl [b2+1] w50).setCell ⟨b2+1,0,none⟩ _ (by simp)).setCell ⟨b2+1,1,none⟩ _ (by simp)).setCell ⟨b2+1,2,none⟩ _ (by simp))
    have S51:=HS50.out.1.upd 5 (Ob.room [b2+1]) rfl hx9 (Fr.refl _ _) (fun k hk=>by
     obtain rfl:=List.mem_singleton.1 hk
     exact Nat.lt_of_lt_of_le (lt_of_block HS50.out.2) hx9.size)
    have S52:Sep w W9 [oAny (Value.slice ya yl yc).ownBlock.toList (fun W=>So.Cells W 5 So.encO (.slice ya yl yc) E),oAny (Value.slice (some ⟨g7,0,none⟩) (n1+2) cap3).ownBlock.toList (fun W=>So.Cells W 2 So.encN (.slice (some ⟨g7,0,none⟩) (n1+2) cap3) E2),oAny (F28++(F26++(F20++FA))) (fun W=>(∀ x∈L,NodesAt W x.tv x.tree)→∀ y∈M,NodesAt W y.tv y.tree)]:=sep_pick [0,4,3] S51 (by decide) rfl
    have hE2l:E2.length=n1+2:=by rw [HN2.out.1.length_eq]; exact HN2.out.2.2
    have S53:=Tr.Sep.glue (j:=1) S52 rfl (oAny ((Value.slice ya yl yc).ownBlock.toList++(F28++(F26++(F20++FA)))) (fun W=>OmsAt W (.slice vb j3 vc) L→OmsAt W (.slice ya yl yc) ML)) (fun k hk=>by
     rcases List.mem_append.1 hk with hk | hk
     ·exact .inl hk
     ·exact .inr hk) (oAny.imp (oAny.both (S52.get 0 rfl) (S52.get 2 rfl)) (fun W hW hL=>oms_of_cells (by rw [HML.out.2.1]; exact hW.1) HML.out.2.2.1 (fun y hy=>by
      rcases List.mem_append.1 (HML.out.1.mem_iff.1 hy) with hy | hy
      ·exact oms_nodes hL y (HK.out.2.2.2.1 y hy)
      ·exact hW.2 (oms_nodes hL) y (lasts_sub M y hy))))
    have S54:=S53.upd 0 (oAny (Value.slice (some ⟨g7,0,none⟩) (n1+2) cap3).ownBlock.toList (fun W=>RowAt W (.slice (some ⟨g7,0,none⟩) (n1+2) cap3) E2)) rfl (Ext.refl _ _) (Fr.refl _ _) (oAny.imp (S53.get 0 rfl) (fun W hW=>row_of_cells hE2l hW))
    rw [←HPO.out]
    exact⟨_,rnum,rgen,_,ML,E2,_,rfl,.inr ⟨HB2.out,by
     have h1:(ML.map bare).Perm ((K++lastsO M).map bare):=HML.out.1.map bare
     rwa [List.map_append,←HK.out.2.1,keep_bare HMM.out.2.1,lasts_bare HMM.out.2.1,←List.map_append] at h1,by
     have h1:=HML.out.2.2.2
     rw [←HML.out.2.1] at h1
     exact (List.pairwise_map.1 h1).imp_of_mem fun {a b} ha hb h=>by
      simp only [So.ltOf',osOf_num (HML.out.2.2.1 a ha),osOf_num (HML.out.2.2.1 b hb),decide_eq_true_eq] at h
      exact h,HMM.out.2.2.2.symm,HN2.out.1,HN2.out.2.1.imp fun {a b} h=>by simpa using h⟩,_,S54⟩
end Pg
end Go.Proofs.YtljachhmdogkdaaGreatDoor
