/-
 Texts PgI, as far as the statement needs them.
-/
import Derived.Test.YtljachhmdogkdaaGreatDoorQPe
import Derived.Laws.StructEq
set_option maxRecDepth 100000
set_option maxHeartbeats 64000000
namespace Go.Proofs.YtljachhmdogkdaaGreatDoor
namespace Pg
open Go.RowKit
open Tr
open Rc
def KeepC (w w' : World):Prop:=∀ a v,w.cell? a=some v→w'.cell? a=some v
theorem KeepC.trans {a b c:World} (h:KeepC a b) (k:KeepC b c):KeepC a c:=fun x v hx=>k x v (h x v hx)
theorem KeepC.of_ext {w w' : World} (h:Ext [] w w'):KeepC w w':=fun _ _ hx=>h.cell hx
theorem KeepC.of_map {κ:Type} {P:Program} {k:TypeId} {mk:κ→Value} {w w' : World} {b n:Nat} {f:κ→Option Value} (h:Mp.MapAt P k mk w b n f) (hx:Ext [b] w w'):KeepC w w':=fun a v hc=>by
 obtain⟨D,⟨es,clock,hb,-⟩,-⟩:=h
 have hne:a.block≠b:=fun e=>by
  simp [World.cell?,e,hb] at hc
 exact (World.cell?_of_block (hx.block a.block (World.block_lt_of_cell? w a hc) (by simpa using hne))).trans hc
theorem nodes_keep {w w' : World} {v:Value} {l:List Nd} (h:NodesAt w v l) (hk:KeepC w w'):NodesAt w' v l:=by
 obtain⟨base,cap,h1,h2,h3⟩:=h
 refine⟨base,cap,h1,h2,fun i hi=>?_⟩
 obtain⟨p,o,hp,n1,n2,n3,n4,nw,kb,kc,n5,hI⟩:=h3 i hi
 refine⟨p,o,hp,hk _ _ n1,hk _ _ n2,hk _ _ n3,hk _ _ n4,nw,kb,kc,hk _ _ n5,fun j hj=>?_⟩
 obtain⟨q,r,hq,c1⟩:=hI j hj
 exact⟨q,r,hq,hk _ _ c1⟩
theorem AskAt.turn {w w' : World} {mb sb n:Nat} {L:List Om} (h:AskAt w mb n L) (hx:Ext [sb] w w') (hne:mb≠sb) (hk:KeepC w w'):AskAt w' mb n L:=
 ⟨h.map.ext hx (by simpa using hne),fun x hm=>nodes_keep (h.nodes x hm) hk,h.wf⟩
abbrev seenAt (w:World) (sb:Nat) (seen:List Rf):Prop:=Mp.MapAt Tryz.prog 24 mkR w sb seen.length (setF seen)
def objX (num gen:Int) (xb:Option Addr) (xn xc:Nat) (st:Bool) (dt:ByteArray):Array Value:=#[.int .i64 num,.int .i64 gen,.slice xb xn xc,.bool st,.string dt]
def cntX (vb:Option Addr) (vn vc:Nat) (m0 m1:Int) (mb sb:Nat):Array Value:=#[.slice vb vn vc,.int .i64 m0,.int .i64 m1,.map (some mb),.map (some sb)]
structure PgSt (L:List Om) (w W:World) (cb mb sb n p q:Nat) (C O:Array Value) (r0 r1 q0 q1:Int) (sn:List Rf) (x:Om):Prop where
 ext:Ext [sb] w W
 cnt:W.heap[cb]? = some (.cells C 93 (0,0))
 ask:AskAt W mb n L
 seen:seenAt W sb sn
 rb:W.heap[p]? = some (.cells #[.int .i64 r0,.int .i64 r1] 24 (0,0))
 pb:W.heap[p+1]? = some (.cells #[.int .i64 q0,.int .i64 q1] 24 (0,0))
 ob:W.heap[q]? = some (.cells O 35 (0,0))
 nodes:NodesAt W x.tv x.tree
theorem PgSt.on {L:List Om} {w W W' : World} {cb mb sb n p q:Nat} {C O:Array Value} {r0 r1 q0 q1:Int} {sn:List Rf} {x:Om} (h:PgSt L w W cb mb sb n p q C O r0 r1 q0 q1 sn x) (hx:Ext [] W W'):PgSt L w W' cb mb sb n p q C O r0 r1 q0 q1 sn x:=
 ⟨h.ext.trans (hx.mono (by simp)),hx.keep h.cnt (by simp),h.ask.ext hx,h.seen.ext hx (by simp),hx.keep h.rb (by simp),hx.keep h.pb (by simp),hx.keep h.ob (by simp),h.nodes.ext hx⟩
theorem PgSt.turn {L:List Om} {w W W' : World} {cb mb sb n p q:Nat} {C O:Array Value} {r0 r1 q0 q1:Int} {sn sn2:List Rf} {x:Om} (h:PgSt L w W cb mb sb n p q C O r0 r1 q0 q1 sn x) (hx:Ext [sb] W W') (hs:seenAt W' sb sn2) (h1:cb≠sb) (h2:mb≠sb) (h3:p≠sb) (h4:p+1≠sb) (h5:q≠sb):PgSt L w W' cb mb sb n p q C O r0 r1 q0 q1 sn2 x:=
 have hk:=KeepC.of_map h.seen hx
 ⟨h.ext.trans hx,hx.keep h.cnt (by simpa using h1),h.ask.turn hx h2 hk,hs,hx.keep h.rb (by simpa using h3),hx.keep h.pb (by simpa using h4),hx.keep h.ob (by simpa using h5),nodes_keep h.nodes hk⟩
theorem gen_world {P:Program} {c:Code} {Q:Exit→Act→World→Prop} {a:Act} {w:World} (h:∀ W,w=W→c.wp P Q a W):c.wp P Q a w:=h w rfl
theorem wp_region_quietX {P:Program} {C:World→Prop} {id:Nat} {Q:Exit→Act→World→Prop} {a:Act} {w:World} {l:List Oper} (hm:P.follows .mixedOrders=true) (hB:Region.lexB .any l.toArray=true) (hC:C { w with drawn:=w.drawn+1 })
  (h:wpQuiet P l.toArray C (fun a'=>∀ w',C w'→Q .normal a' w') l a):(Code.region id l.toArray true).wp P Q a w:=
 wp_region_quiet (C:=C) hm hB hC (by simpa using h)
theorem zeroBoolW (W:World):(zeroValue 4).run Tryz.prog W=.ok (.bool false) W:=by kernel_rfl
theorem setF_look (l:List Rf) (r:Rf):(setF l r).getD (.bool false)=.bool (decide (r∈l)):=by
 unfold setF
 by_cases h:r∈l <;> simp [h]
theorem pages_walk (L:List Om) (vb:Option Addr) (vn vc:Nat) (m0 m1:Int) (mb sb cb n:Nat) (hne:mb≠sb) (hne2:cb≠sb) (hl:L.length≤100000):∀ (g:Nat) (seen:List Rf) (r parent:Rf) (top:Bool) (w:World),
  AskAt w mb n L→w.heap[cb]? = some (.cells #[.slice vb vn vc,.int .i64 m0,.int .i64 m1,.map (some mb),.map (some sb)] 93 (0,0))→seenAt w sb seen→QOk L seen→L.length+1≤seen.length+g→RfWf r→
  Calls Tryz.prog 49 #[.pointer (some ⟨cb,0,none⟩),mkR r,mkR parent,.bool top] w fun e w'=>e=.returned (.tuple #[.int .i64 (pagesF L g seen r parent top).1.1,.bool (pagesF L g seen r parent top).1.2])∧Ext [sb] w w'∧seenAt w' sb (pagesF L g seen r parent top).2:=by
 intro g
 induction g with
 | zero=>
  intro seen r parent top w hA hc hM hq hg hr
  have:=qok_len hq
  omega
 | succ g ih=>
 intro seen r parent top w hA hc hM hq hg hr
 have hIH:=zz ih
 obtain⟨kl,hkl⟩:=keyR hr
 obtain⟨r0,r1⟩:=r
 obtain⟨q0,q1⟩:=parent
 obtain⟨R,hR⟩:∃ R,pagesF L (g+1) seen (r0,r1) (q0,q1) top=R:=⟨_,rfl⟩
 rw [hR]
 obtain⟨p,hp⟩:∃ p,w.heap.size=p:=⟨_,rfl⟩
 obtain⟨W0,hW0⟩:∃ W0,(w.alloc (.cells #[.int .i64 r0,.int .i64 r1] 24)).alloc (.cells #[.int .i64 q0,.int .i64 q1] 24)=W0:=⟨_,rfl⟩
 have hx0:Ext [] w W0:=by rw [←hW0]; exact ((Ext.refl [] w).alloc _).alloc _
 have hb5:W0.heap[p]? = some (.cells #[.int .i64 r0,.int .i64 r1] 24 (0,0)):=by rw [←hW0,←hp]; exact heap_alloc_old _ (heap_alloc_at _)
 have hb6:W0.heap[p+1]? = some (.cells #[.int .i64 q0,.int .i64 q1] 24 (0,0)):=by
  have:=heap_alloc_at (w:=w.alloc (.cells #[.int .i64 r0,.int .i64 r1] 24)) (.cells #[.int .i64 q0,.int .i64 q1] 24)
  rw [show (w.alloc (.cells #[.int .i64 r0,.int .i64 r1] 24)).heap.size=p+1 from by simp [hp],hW0] at this
  exact this
 have hs0:W0.heap.size=p+2:=by rw [←hW0]; simp [hp]
 have hc0:=hx0.keep hc (by simp)
 have hA0:=hA.ext hx0
 have hM0:seenAt W0 sb seen:=hM.ext hx0 (by simp)
 have hsp:sb<p:=by rw [←hp]; exact hM.lt
 have HB:=zz11 ⟨hx0,hb5,hb6,hs0,hc0,hA0,hM0,hq,hg,hp,hsp⟩
 have HKL:=zz2 ⟨hkl,hr⟩
 have k3:∀ y:Ex W0,y.w.cell? ⟨cb,3,none⟩=some (.map (some mb)):=fun y=>y.cell (cellOf hc0 3)
 have k5:∀ y:Ex W0,y.w.cell? ⟨p,0,none⟩=some (.int .i64 r0):=fun y=>y.cell (cellOf hb5 0)
 have k6:∀ y:Ex W0,y.w.cell? ⟨p,1,none⟩=some (.int .i64 r1):=fun y=>y.cell (cellOf hb5 1)
 have hlook:∀ y:Ex W0,(Instr.lookup 60 (.map (some mb)) (.agg #[.int .i64 r0,.int .i64 r1]) true).run Tryz.prog y.w=.ok (.tuple #[(idxF L (r0,r1)).getD zeroV,.bool (idxF L (r0,r1)).isSome]) y.w:=fun y=>(hA0.ext y.ext).map.look_ok lawR Tryz.underlying60 (zeroObj _) (x:=(r0,r1)) hkl
 clear hx0 hb5 hb6 hs0 hc0 hA0 hM0 hq hg hsp hkl hr hA hM hc ih
 rw [pagesF] at hR
 cases hf:findO L (r0,r1) with
 | none=>
  rw [hf] at hR
  simp only at hR
  subst hR
  rw [show idxF L (r0,r1)=none by unfold idxF; rw [hf]; rfl] at hlook
  simp only [Option.getD_none,Option.isSome_none] at hlook
  clear hf
  show Calls _ _ #[_,.agg #[.int .i64 r0,.int .i64 r1],.agg #[.int .i64 q0,.int .i64 q1],_] _ _
  go_enter Tryz.func49,Tryz.ntmps49
  go_upto_region 1 with (fail)
  refine wp_region_permL (C:=fun w'=>∃ y:Ex W0,w' = y.w) [0,1,2,3,4,5,6,7,8,9] 12 (by kernel_rfl) (by kernel_rfl) ⟨Ex.mk _ ((Ext.refl [] W0).drew),rfl⟩ ?_
  simp only [pick,List.getElem?_toArray,List.getElem?_cons_zero,List.getElem?_cons_succ,List.drop_succ_cons,List.drop_zero]
  repeat (go_big_quiet_step (fail))
  refine wpQuiet_nil ?_
  clear hlook k3 k5 k6
  refine anyC_one (f:=1) (i:=10) (by kernel_rfl) (by decide) rfl rfl (fun K hK=>?_)
  go_wp2_with fail
  refine hK _ _ ⟨Ex.mk _ (((Ext.refl [] W0).drew).alloc _),rfl⟩ ?_
  clear hK K
  refine anyC_one (f:=0) (i:=11) (by kernel_rfl) (by decide) rfl rfl (fun K hK=>?_)
  go_wp2_with fail
  refine hK _ _ ⟨Ex.mk _ (((Ext.refl [] W0).drew).alloc _),rfl⟩ ?_
  clear hK K
  refine anyC_end (by kernel_rfl) ?_
  go_wp2_with fail
  refine NoPanic.normal ?_
  go_upto_region 2 with (fail)
  refine gen_world (fun W2 hW2=>?_)
  have hx2:Ext [] W0 W2:=by rw [←hW2]; exact ((Ext.refl [] W0).drew).alloc _
  have HX2:=zz hx2
  clear hx2 hW2
  refine wp_region_quietX (C:=fun w'=>∃ y:Ex W2,w' = y.w) (by kernel_rfl) (by kernel_rfl) ⟨Ex.mk _ ((Ext.refl [] W2).drew),rfl⟩ ?_
  repeat (go_big_quiet_step (fail))
  refine wpQuiet_nil ?_
  rintro w' ⟨y,rfl⟩
  go_wp2_with fail
  go_ret2
  exact⟨rfl,((HB.out.1.trans HX2.out).trans y.ext).mono (by simp),HB.out.2.2.2.2.2.2.1.ext (HX2.out.trans y.ext) (by simp)⟩
 | some o=>
  obtain⟨hxm,hxk⟩:=findO_mem hf
  obtain⟨xb,xc,hxv⟩:=tree_slice (HB.out.2.2.2.2.2.1.nodes o hxm)
  have hNx:=HB.out.2.2.2.2.2.1.nodes o hxm
  have hLx:=(HB.out.2.2.2.2.2.1.wf o hxm).lt
  rw [show idxF L (r0,r1)=some (omV o) by unfold idxF; rw [hf]; rfl] at hlook
  have hho:hasO L (r0,r1)=true:=by unfold hasO; rw [hf]; rfl
  rw [hf] at hR
  simp only [Option.getD_some,Option.isSome_some] at hlook
  simp only at hR
  have hvt:omV o=.agg (objX o.num o.gen xb o.tree.length xc o.stream o.data):=by unfold omV; rw [hxv]; rfl
  rw [hvt] at hlook
  obtain⟨xn,hxn⟩:∃ xn,o.tree.length=xn:=⟨_,rfl⟩
  obtain⟨xnum,hxnum⟩:∃ y,o.num=y:=⟨_,rfl⟩
  obtain⟨xgen,hxgen⟩:∃ y,o.gen=y:=⟨_,rfl⟩
  obtain⟨xst,hxst⟩:∃ y,o.stream=y:=⟨_,rfl⟩
  obtain⟨xdt,hxdt⟩:∃ y,o.data=y:=⟨_,rfl⟩
  rw [hxn,hxnum,hxgen,hxst,hxdt] at hlook hvt
  unfold objX at hlook
  have HO:=zz7 ⟨hxm,hNx,hLx,hho,hvt,hxv,hxn⟩
  clear hf hxm hxk hNx hLx hho hvt hxv hxn hxnum hxgen hxst hxdt
  show Calls _ _ #[_,.agg #[.int .i64 r0,.int .i64 r1],.agg #[.int .i64 q0,.int .i64 q1],_] _ _
  go_enter Tryz.func49,Tryz.ntmps49
  go_upto_region 1 with (fail)
  refine wp_region_permL (C:=fun w'=>∃ y:Ex W0,w' = y.w) [0,1,2,3,4,5,6,7,8,9] 12 (by kernel_rfl) (by kernel_rfl) ⟨Ex.mk _ ((Ext.refl [] W0).drew),rfl⟩ ?_
  simp only [pick,List.getElem?_toArray,List.getElem?_cons_zero,List.getElem?_cons_succ,List.drop_succ_cons,List.drop_zero]
  repeat (go_big_quiet_step (fail))
  refine wpQuiet_nil ?_
  clear hlook k3 k5 k6
  refine anyC_one (f:=1) (i:=10) (by kernel_rfl) (by decide) rfl rfl (fun K hK=>?_)
  go_wp2_with fail
  refine hK _ _ ⟨Ex.mk _ (((Ext.refl [] W0).drew).alloc _),rfl⟩ ?_
  clear hK K
  refine anyC_one (f:=0) (i:=11) (by kernel_rfl) (by decide) rfl rfl (fun K hK=>?_)
  go_wp2_with fail
  refine hK _ _ ⟨Ex.mk _ (((Ext.refl [] W0).drew).alloc _),rfl⟩ ?_
  clear hK K
  refine anyC_end (by kernel_rfl) ?_
  go_wp2_with fail
  refine NoPanic.normal ?_
  go_upto_region 2 with (fail)
  refine gen_world (fun W2 hW2=>?_)
  obtain⟨q,hq⟩:∃ q,W0.heap.size=q:=⟨_,rfl⟩
  rw [hq]
  have hx2:Ext [] W0 W2:=by rw [←hW2]; exact ((Ext.refl [] W0).drew).alloc _
  have hb2:W2.heap[q]? = some (.cells (objX xnum xgen xb xn xc xst xdt) 35 (0,0)):=by rw [←hW2,←hq]; exact heap_alloc_at _
  have hSt:PgSt L w W2 cb mb sb n p q (cntX vb vn vc m0 m1 mb sb) (objX xnum xgen xb xn xc xst xdt) r0 r1 q0 q1 seen o:=
   ⟨(HB.out.1.trans hx2).mono (by simp),hx2.keep HB.out.2.2.2.2.1 (by simp),HB.out.2.2.2.2.2.1.ext hx2,HB.out.2.2.2.2.2.2.1.ext hx2 (by simp),hx2.keep HB.out.2.1 (by simp),hx2.keep HB.out.2.2.1 (by simp),hb2,HO.out.2.1.ext hx2⟩
  have hqs:q≠sb:=by have h1:=HB.out.2.2.2.2.2.2.2.2.2.2; have h2:=HB.out.2.2.2.1; omega
  have HP:=zz2 ⟨hSt,hqs⟩
  clear hx2 hb2 hSt hqs hW2
  obtain⟨bad,hbad⟩:∃ b,(decide ((r0,r1)∈seen)||(!nodeN o&&(top || !pageN o)))=b:=⟨_,rfl⟩
  obtain⟨pg,hpg⟩:∃ b,pageN o=b:=⟨_,rfl⟩
  have k5:∀ y:Ex W2,y.w.cell? ⟨p,0,none⟩=some (.int .i64 r0):=fun y=>y.cell (cellOf HP.out.1.rb 0)
  have k6:∀ y:Ex W2,y.w.cell? ⟨p,1,none⟩=some (.int .i64 r1):=fun y=>y.cell (cellOf HP.out.1.rb 1)
  have k7:∀ y:Ex W2,y.w.cell? ⟨cb,4,none⟩=some (.map (some sb)):=fun y=>y.cell (cellOf HP.out.1.cnt 4)
  have j0:∀ y:Ex W2,y.w.cell? ⟨q,0,none⟩=some (.int .i64 xnum):=fun y=>y.cell (cellOf HP.out.1.ob 0)
  have j1:∀ y:Ex W2,y.w.cell? ⟨q,1,none⟩=some (.int .i64 xgen):=fun y=>y.cell (cellOf HP.out.1.ob 1)
  have j2:∀ y:Ex W2,y.w.cell? ⟨q,2,none⟩=some (.slice xb xn xc):=fun y=>y.cell (cellOf HP.out.1.ob 2)
  have j3:∀ y:Ex W2,y.w.cell? ⟨q,3,none⟩=some (.bool xst):=fun y=>y.cell (cellOf HP.out.1.ob 3)
  have j4:∀ y:Ex W2,y.w.cell? ⟨q,4,none⟩=some (.string xdt):=fun y=>y.cell (cellOf HP.out.1.ob 4)
  have hsl:∀ y:Ex W2,(Instr.lookup 91 (.map (some sb)) (.agg #[.int .i64 r0,.int .i64 r1]) false).run Tryz.prog y.w=.ok (.bool (decide ((r0,r1)∈seen))) y.w:=fun y=>by
   rw [←setF_look]; exact (HP.out.1.seen.ext y.ext (by simp)).look lawR Tryz.underlying91 (zeroBoolW _) (x:=(r0,r1)) HKL.out.1
  have HN:=zz (fun (y:Ex W2)=>(node_walk o y.w (HP.out.1.nodes.ext y.ext) HO.out.2.2.1).mono (fun e w' (h:e=.returned (.bool (nodeN o))∧Ext [] y.w w')=>(⟨h.1,Ex.mk w' (y.ext.trans h.2),rfl⟩:e=.returned (.bool (nodeN o))∧∃ z:Ex W2,w' = z.w)))
  have HG:=zz (fun (y:Ex W2)=>(page_walk o y.w (HP.out.1.nodes.ext y.ext) HO.out.2.2.1).mono (fun e w' (h:e=.returned (.bool (pageN o))∧Ext [] y.w w')=>(⟨h.1,Ex.mk w' (y.ext.trans h.2),rfl⟩:e=.returned (.bool (pageN o))∧∃ z:Ex W2,w' = z.w)))
  rw [HO.out.2.2.2.2.1] at HN HG
  unfold objX at HN HG
  go_cut [57] from 35 to 57 (fun c57 wx=>c57=.bool bad∧Ext [] W2 wx)
  case first=>
   obtain⟨nb,hnb⟩:∃ b,nodeN o=b:=⟨_,rfl⟩
   rw [hnb] at HN hbad
   rw [hpg] at HG hbad
   by_cases hs:(r0,r1)∈seen
   ·rw [decide_eq_true hs] at hsl
    have hb:bad=true:=by rw [←hbad]; simp [hs]
    subst hb
    clear hbad
    refine wp_region_quietX (C:=fun w'=>∃ y:Ex W2,w' = y.w) (by kernel_rfl) (by kernel_rfl) ⟨Ex.mk _ ((Ext.refl [] W2).drew),rfl⟩ ?_
    repeat (go_big_quiet_step (first | with_reducible exact HN.out _ | with_reducible exact HG.out _))
    refine wpQuiet_nil ?_
    rintro w' ⟨y,rfl⟩
    go_wp2_with fail
    go_meet
    exact⟨rfl,y.ext⟩
   ·rw [decide_eq_false hs] at hsl
    cases nb with
    | true=>
     have hb:bad=false:=by rw [←hbad]; simp [hs]
     subst hb
     clear hbad
     refine wp_region_quietX (C:=fun w'=>∃ y:Ex W2,w' = y.w) (by kernel_rfl) (by kernel_rfl) ⟨Ex.mk _ ((Ext.refl [] W2).drew),rfl⟩ ?_
     repeat (go_big_quiet_step (first | with_reducible exact HN.out _ | with_reducible exact HG.out _))
     refine wpQuiet_nil ?_
     rintro w' ⟨y,rfl⟩
     go_wp2_with fail
     go_meet
     exact⟨rfl,y.ext⟩
    | false=>
     cases top with
     | true=>
      have hb:bad=true:=by rw [←hbad]; simp [hs]
      subst hb
      clear hbad
      refine wp_region_quietX (C:=fun w'=>∃ y:Ex W2,w' = y.w) (by kernel_rfl) (by kernel_rfl) ⟨Ex.mk _ ((Ext.refl [] W2).drew),rfl⟩ ?_
      repeat (go_big_quiet_step (first | with_reducible exact HN.out _ | with_reducible exact HG.out _))
      refine wpQuiet_nil ?_
      rintro w' ⟨y,rfl⟩
      go_wp2_with fail
      go_meet
      exact⟨rfl,y.ext⟩
     | false=>
      cases pg with
      | true=>
       have hb:bad=false:=by rw [←hbad]; simp [hs]
       subst hb
       clear hbad
       refine wp_region_quietX (C:=fun w'=>∃ y:Ex W2,w' = y.w) (by kernel_rfl) (by kernel_rfl) ⟨Ex.mk _ ((Ext.refl [] W2).drew),rfl⟩ ?_
       repeat (go_big_quiet_step (first | with_reducible exact HN.out _ | with_reducible exact HG.out _))
       refine wpQuiet_nil ?_
       rintro w' ⟨y,rfl⟩
       go_wp2_with fail
       go_meet
       exact⟨rfl,y.ext⟩
      | false=>
       have hb:bad=true:=by rw [←hbad]; simp [hs]
       subst hb
       clear hbad
       refine wp_region_quietX (C:=fun w'=>∃ y:Ex W2,w' = y.w) (by kernel_rfl) (by kernel_rfl) ⟨Ex.mk _ ((Ext.refl [] W2).drew),rfl⟩ ?_
       repeat (go_big_quiet_step (first | with_reducible exact HN.out _ | with_reducible exact HG.out _))
       refine wpQuiet_nil ?_
       rintro w' ⟨y,rfl⟩
       go_wp2_with fail
       go_meet
       exact⟨rfl,y.ext⟩
  case rest=>
  obtain⟨rfl,hx⟩:=hcut
  have hS3:=HP.out.1.on hx
  have hqs:=HP.out.2
  clear k5 k6 k7 j0 j1 j2 j3 j4 hsl HN HG HP hx
  cases hbd:bad with
  | true=>
   subst hbd
   have hR2:R=((0,false),seen):=by
    rw [←hR]
    by_cases hs:(r0,r1)∈seen
    ·rw [if_pos hs]
    ·rw [if_neg hs,if_pos (by simpa [hs] using hbad)]
   subst hR2
   have HZ:=zz2 ⟨hS3.ext,hS3.seen⟩
   clear hbad hS3 hR hqs
   go_wp2_with fail
   go_ret2
   exact⟨rfl,HZ.out.1,HZ.out.2⟩
  | false=>
  subst hbd
  obtain⟨hns,hng⟩:(r0,r1)∉seen∧¬ (!nodeN o&&(top || !pageN o))=true:=by simpa using hbad
  rw [if_neg hns,if_neg hng] at hR
  clear hbad
  have hps:p≠sb:=by have h1:=HB.out.2.2.2.2.2.2.2.2.2.2; omega
  have hps1:p+1≠sb:=by have h1:=HB.out.2.2.2.2.2.2.2.2.2.2; omega
  have hq2:=snoc_ok HB.out.2.2.2.2.2.2.2.1 HO.out.2.2.2.1 hns
  have hg2:L.length+1≤(seen++[(r0,r1)]).length+g:=by have:=HB.out.2.2.2.2.2.2.2.2.1; simp only [List.length_append,List.length_cons,List.length_nil]; omega
  have hlen:seen.length≤100000:=Nat.le_trans (qok_len HB.out.2.2.2.2.2.2.2.1) hl
  have HW:=zz7 ⟨hS3,hqs,hps,hps1,hq2,hg2,hlen⟩
  have k5:∀ y:Ex wc,y.w.cell? ⟨p,0,none⟩=some (.int .i64 r0):=fun y=>y.cell (cellOf HW.out.1.rb 0)
  have k6:∀ y:Ex wc,y.w.cell? ⟨p,1,none⟩=some (.int .i64 r1):=fun y=>y.cell (cellOf HW.out.1.rb 1)
  have k7:∀ y:Ex wc,y.w.cell? ⟨cb,4,none⟩=some (.map (some sb)):=fun y=>y.cell (cellOf HW.out.1.cnt 4)
  clear hS3 hqs hps hps1 hq2 hg2 hlen hns hng
  go_upto_region 4 with fail
  refine wp_region_quiet_tail (C:=fun w'=>∃ y:Ex wc,w' = y.w) 5 (by kernel_rfl) (by kernel_rfl) ⟨Ex.mk _ ((Ext.refl [] wc).drew),rfl⟩ ?_
  simp only [List.take_succ_cons,List.take_zero,List.drop_succ_cons,List.drop_zero]
  repeat (go_big_quiet_step (fail))
  refine wpQuiet_nil ?_
  clear k5 k6 k7
  rintro _ ⟨x6,rfl⟩
  obtain⟨w6,hw6⟩:∃ w6,x6.w=w6:=⟨_,rfl⟩
  have hx6:=x6.ext
  rw [hw6] at hx6
  rw [hw6]
  clear hw6 x6
  have HS6:=zz (HW.out.1.on hx6)
  clear hx6
  have HL6:=zz (fun W7 (hm7:Mp.MapAt Tryz.prog 24 mkR W7 sb (seen.length+1) (setF (seen++[(r0,r1)])))=>(by unfold seenAt; rw [List.length_append]; exact hm7:seenAt W7 sb (seen++[(r0,r1)])))
  go_upto_region 5 with (first | (at_mapUpdate; refine Mp.wpList_store_mp rfl _ _ _ 91 rfl 4 lawR mkR_inj Tryz.underlying91 rfl HS6.out.seen (by have:=HW.out.2.2.2.2.2.2; unfold maxLen; omega) (r0,r1) (.bool true) kl rfl rfl HKL.out.1 ?_; intro w7 hm7 hx7; rw [setF_more] at hm7; have HS7:=zz (HS6.out.turn hx7 (HL6.out w7 hm7) hne2 hne HW.out.2.2.1 HW.out.2.2.2.1 HW.out.2.1); clear hm7 hx7; rw [show ∀ a:Act,a.put none undef=a from fun _=>rfl]))
  clear HS6 HL6
  have hxv:o.tv=.slice xb xn xc:=by rw [HO.out.2.2.2.2.2.1,HO.out.2.2.2.2.2.2]
  have HGp:=get_walk o.tv o.tree kParent w7 HS7.out.nodes HO.out.2.2.1
  have HTo:=zz (fun W (hx:Ext [] w7 W)=>to_walk o.tv o.tree kParent W (HS7.out.nodes.ext hx) HO.out.2.2.1)
  rw [hxv] at HGp HTo
  have HGp:=zz HGp
  clear hxv
  have c2:w7.cell? ⟨q,2,none⟩=some (.slice xb xn xc):=cellOf HS7.out.ob 2
  obtain⟨an,han⟩:∃ b,(getN o.tree kParent).isSome=b:=⟨_,rfl⟩
  obtain⟨hs,hhs⟩:∃ b,(toN o.tree kParent).2=b:=⟨_,rfl⟩
  obtain⟨⟨t0,t1⟩,htt⟩:∃ b,(toN o.tree kParent).1=b:=⟨_,rfl⟩
  rw [han] at HGp
  rw [hhs,htt] at HTo
  go_wp2_with fail
  refine HGp.out.mono ?_
  rintro e w8 ⟨v8,rfl,hx8,hN8⟩
  obtain⟨tb,tc,rfl,-⟩:=hN8
  have c2:=hx8.cell c2
  have HX8:=zz hx8
  clear hx8 HGp
  go_wp2_with fail
  refine (HTo.out w8 HX8.out).mono ?_
  rintro e w9 ⟨rfl,hx9⟩
  have HX9:=zz (HX8.out.trans hx9)
  clear hx9 HX8 HTo c2
  go_upto_region 7 with fail
  refine gen_world (fun W10 hW10=>?_)
  have hx10:Ext [] w7 W10:=by rw [←hW10]; exact HX9.out.alloc _
  have hb14:W10.heap[w9.heap.size]? = some (.cells #[.int .i64 t0,.int .i64 t1] 24 (0,0)):=by rw [←hW10]; exact heap_alloc_at _
  obtain⟨pb,hpb⟩:∃ pb,w9.heap.size=pb:=⟨_,rfl⟩
  rw [hpb] at hb14 ⊢
  have HS10:=zz (HS7.out.on hx10)
  clear hx10 hW10 HX9 HS7 hpb
  have a0:=cellOf hb14 0
  have a1:=cellOf hb14 1
  have b0:=cellOf HS10.out.pb 0
  have b1:=cellOf HS10.out.pb 1
  obtain⟨B,hB⟩:∃ B,badP o (q0,q1) top=B:=⟨_,rfl⟩
  rw [hB] at hR
  unfold badP at hB
  rw [han,hhs,htt] at hB
  obtain⟨dl,hdl⟩:∃ dl,((getN o.tree kParent).getD []).length=dl:=⟨_,rfl⟩
  rw [hdl]
  clear hb14 han hhs htt hdl
  cases top with
  | true=>
   cases an with
   | true=>
    obtain rfl:B=true:=by rw [←hB]; rfl
    rw [if_pos rfl] at hR
    subst hR
    clear hB
    go_wp2_with fail
    go_ret2
    exact⟨rfl,HS10.out.ext,HS10.out.seen⟩
   | false=>
    obtain rfl:B=false:=by rw [←hB]; rfl
    rw [if_neg Bool.false_ne_true] at hR
    clear hB
    have d0:W10.cell? ⟨q,0,none⟩=some (.int .i64 xnum):=cellOf HS10.out.ob 0
    have d1:W10.cell? ⟨q,1,none⟩=some (.int .i64 xgen):=cellOf HS10.out.ob 1
    have d2:W10.cell? ⟨q,2,none⟩=some (.slice xb xn xc):=cellOf HS10.out.ob 2
    have d3:W10.cell? ⟨q,3,none⟩=some (.bool xst):=cellOf HS10.out.ob 3
    have d4:W10.cell? ⟨q,4,none⟩=some (.string xdt):=cellOf HS10.out.ob 4
    have hPg:=page_walk o W10 HS10.out.nodes HO.out.2.2.1
    rw [HO.out.2.2.2.2.1,hpg] at hPg
    unfold objX at hPg
    have HPg:=zz hPg
    rw [hpg] at hR
    clear hPg
    go_wp2_with fail
    refine HPg.out.mono ?_
    rintro e w11 ⟨rfl,hx11⟩
    have HS11:=zz (HS10.out.on hx11)
    have d2:=hx11.cell d2
    clear hx11 HPg d0 d1 d3 d4 HS10 a0 a1 b0 b1
    cases pg with
    | true=>
     rw [if_pos rfl] at hR
     subst hR
     go_wp2_with fail
     go_ret2
     exact⟨rfl,HS11.out.ext,HS11.out.seen⟩
    | false=>
    rw [if_neg Bool.false_ne_true] at hR
    have hKw:=kids_walk o.tv o.tree w11 HS11.out.nodes HO.out.2.2.1
    rw [show o.tv=.slice xb xn xc by rw [HO.out.2.2.2.2.2.1,HO.out.2.2.2.2.2.2]] at hKw
    obtain⟨K,hK⟩:∃ K,(kidsN o.tree).1=K:=⟨_,rfl⟩
    obtain⟨ar,har⟩:∃ b,(kidsN o.tree).2.1=b:=⟨_,rfl⟩
    obtain⟨al,hal⟩:∃ b,(kidsN o.tree).2.2=b:=⟨_,rfl⟩
    have hKr:∀ r∈K,RfWf r:=fun r hr=>refs_wf (kids_ref (l:=o.tree) (by rw [hK]; exact hr))
    have hKl:K.length≤65536:=by rw [←hK]; exact kids_len o.tree
    rw [hK,har,hal] at hKw
    rw [hK,hal] at hR
    have HKw:=zz hKw
    have HK:=zz2 ⟨hKr,hKl⟩
    clear hKw hK har hal hKr
    go_wp2_with fail
    refine HKw.out.mono ?_
    rintro e w12 ⟨v12,rfl,S12⟩
    have HS12:=zz (HS11.out.on S12.ext)
    have hrow:w12.ownsRow 0 24 2 v12 K.length (rfC K):=S12.get 0 rfl
    obtain⟨kb,kc,rfl⟩:=row_slice hrow
    have hrc:∀ i u,(rfC K)[i]? = some u→∃ g,kb=some ⟨g,0,none⟩∧w12.cell? ⟨g,i,none⟩=some u:=fun i u hu=>by
     have hn:0<K.length:=by
      cases hK0:K with
      | nil=>rw [hK0] at hu; simp [rfC] at hu
      | cons a t=>simp
     obtain⟨g,cap,he⟩:=row_form hrow hn
     cases he
     exact⟨g,rfl,row_cell hrow hu⟩
    obtain⟨kn,hkn⟩:∃ kn,K.length=kn:=⟨_,rfl⟩
    rw [hkn]
    have HR:=zz2 ⟨hrc,hkn⟩
    clear S12 hrow hrc HKw HS11 d2
    cases al with
    | false=>
     rw [if_pos rfl] at hR
     subst hR
     go_wp2_with fail
     go_ret2
     exact⟨rfl,HS12.out.ext,HS12.out.seen⟩
    | true=>
    rw [if_neg (by simp)] at hR
    obtain⟨RK,hRK⟩:∃ RK,kidsL (fun sn k=>pagesF L g sn k (r0,r1) false) K 0 (seen++[(r0,r1)])=RK:=⟨_,rfl⟩
    rw [hRK] at hR
    have HF:=zz hRK
    have HRR:=zz hR
    clear hRK hR
    have HG9:=zz2 ⟨HW.out.2.2.2.2.1,HW.out.2.2.2.2.2.1⟩
    have HPS:=zz3 ⟨HW.out.2.1,HW.out.2.2.1,HW.out.2.2.2.1⟩
    clear HW hkn
    go_wp2_with fail
    go_loopg [8,9,19,21,22,23,105] kn (fun gg v8 v9 v19 v21 v22 v23 iv wr=>∃ (i s:Nat) (sn:List Rf),gg+i=kn∧iv=.int .i64 i∧v8=.int .i64 0∧v9=.bool false∧v19=.int .i64 s∧kidsL (fun sn k=>pagesF L g sn k (r0,r1) false) (K.drop i) s sn=RK∧QOk L sn∧(seen++[(r0,r1)]).length≤sn.length∧s≤sn.length∧KeepC w12 wr∧PgSt L w wr cb mb sb n p q (cntX vb vn vc m0 m1 mb sb) (objX xnum xgen xb xn xc xst xdt) r0 r1 q0 q1 sn o)
    case atStart=>exact⟨0,0,seen++[(r0,r1)],by omega,rfl,rfl,rfl,rfl,HF.out,HG9.out.1,Nat.le_refl _,Nat.zero_le _,fun _ _ h=>h,HS12.out⟩
    case round=>
     clear HS12
     obtain⟨i,s,sn,hgi,rfl,rfl,rfl,rfl,hk,hq,hmore,hsl,hkp,hS⟩:=hrel
     by_cases hlt:i<kn
     case neg=>
      obtain rfl:gk=0:=by omega
      rw [List.drop_of_length_le (by rw [HR.out.2]; omega)] at hk
      have hk:(some (s:Int),sn)=RK:=hk
      obtain⟨cv,hcv⟩:∃ cv,countN o.tree s=cv:=⟨_,rfl⟩
      have hR:((((s:Int),cv),sn):Cnt)=R:=by rw [←HRR.out,←hk,←hcv]
      subst hR
      have hGc:=get_walk o.tv o.tree kCount wr hS.nodes HO.out.2.2.1
      rw [show o.tv=.slice xb xn xc by rw [HO.out.2.2.2.2.2.1,HO.out.2.2.2.2.2.2]] at hGc
      have d2:wr.cell? ⟨q,2,none⟩=some (.slice xb xn xc):=cellOf hS.ob 2
      have HS:=zz hS
      clear hk hS hq hmore hsl hkp hIH HRR HF
      cases hgc:getN o.tree kCount with
      | none=>
       rw [hgc] at hGc
       simp only [Option.isSome_none,Option.getD_none] at hGc
       obtain rfl:cv=false:=by rw [←hcv]; unfold countN; rw [hgc]
       have HGc:=zz hGc
       clear hGc hgc
       go_wp2_with fail
       refine HGc.out.mono ?_
       rintro e w13 ⟨v13,rfl,hx13,hN13⟩
       obtain⟨tb3,tc3,rfl,-⟩:=hN13
       have HSz:=zz (HS.out.on hx13)
       clear hx13 HGc d2 HS
       go_upto_region 25 with fail
       go_quiet (fail)
       go_wp2_with fail
       go_ret2
       exact⟨rfl,HSz.out.ext.drewN _,HSz.out.seen.ext ((Ext.refl [] _).drewN _) (by simp)⟩
      | some t=>
       rw [hgc] at hGc
       simp only [Option.isSome_some,Option.getD_some] at hGc
       obtain⟨-,h0,-⟩:=get_tree hgc
       have hcn:countN o.tree s=((ndAt t 0).kind==3&&(ndAt t 0).n==(s:Int)):=by unfold countN; rw [hgc]
       obtain⟨x,hx0⟩:∃ x,ndAt t 0=x:=⟨_,rfl⟩
       rw [hx0] at hcn
       obtain⟨yk,yn,yg,ys,yK⟩:=x
       dsimp only at hcn
       have HGc:=zz hGc
       have HI:=zz2 ⟨h0,hx0⟩
       rw [hcv] at hcn
       clear hGc hgc hx0 hcv
       go_wp2_with fail
       refine HGc.out.mono ?_
       rintro e w13 ⟨v13,rfl,hx13,hN13⟩
       obtain⟨tb3,tc3,rfl,-,hN13⟩:=hN13
       obtain⟨zb,zq,rfl,z1,z2,-⟩:=node_in hN13 0 HI.out.1
       rw [Nat.zero_mul,Nat.add_zero,show ((0:Nat):Int)=0 from rfl,HI.out.2] at z1 z2
       dsimp only at z1 z2
       obtain⟨tl,htl⟩:∃ m,t.length=m:=⟨_,rfl⟩
       have h0:(0:Int)<(tl:Int):=by have:=HI.out.1; omega
       rw [htl]
       have HSz:=zz (HS.out.on hx13)
       clear hx13 HGc d2 HS hN13 HI htl
       go_upto_region 25 with fail
       by_cases e3:yk=3
       ·subst e3
        by_cases e4:yn=(s:Int)
        ·subst e4
         obtain rfl:cv=true:=by rw [hcn]; simp
         clear hcn
         go_quiet (fail)
         go_wp2_with fail
         go_ret2
         exact⟨rfl,HSz.out.ext.drewN _,HSz.out.seen.ext ((Ext.refl [] _).drewN _) (by simp)⟩
        ·obtain rfl:cv=false:=by rw [hcn]; simp [e4]
         have e4b:(yn==(s:Int))=false:=by simp [e4]
         clear hcn e4
         go_quiet (fail)
         go_wp2_with fail
         go_ret2
         exact⟨rfl,HSz.out.ext.drewN _,HSz.out.seen.ext ((Ext.refl [] _).drewN _) (by simp)⟩
       ·obtain rfl:cv=false:=by rw [hcn]; simp [e3]
        have e3b:(yk==3)=false:=by simp [e3]
        clear hcn e3
        go_quiet (fail)
        go_wp2_with fail
        go_ret2
        exact⟨rfl,HSz.out.ext.drewN _,HSz.out.seen.ext ((Ext.refl [] _).drewN _) (by simp)⟩
     case pos=>
      obtain⟨g2,rfl⟩:∃ g2,gk=g2+1:=⟨gk - 1,by omega⟩
      have hik:i<K.length:=by rw [HR.out.2]; exact hlt
      have hltz:(i:Int)<(kn:Int):=by omega
      obtain⟨c1,c2⟩:=rfC_at K i hik
      rw [List.drop_eq_getElem_cons hik] at hk
      have hwf:=HK.out.1 _ (List.getElem_mem hik)
      generalize K[i]'hik=kk at *
      obtain⟨k0,k1⟩:=kk
      obtain⟨kg,rfl,c1⟩:=HR.out.1 _ _ c1
      obtain⟨kg',he,c2⟩:=HR.out.1 _ _ c2
      cases he
      have c1:=hkp _ _ c1
      have c2:=hkp _ _ c2
      dsimp only at c1 c2
      have hSa:=hS.on ((Ext.refl [] wr).alloc (.cells #[.int .i64 k0,.int .i64 k1] 24))
      have hC:=hIH.out sn (k0,k1) (r0,r1) false _ hSa.ask hSa.cnt hSa.seen hq (by have:=HG9.out.2; omega) hwf
      dsimp only [mkR] at hC
      have hok:=pagesF_ok L g sn (k0,k1) (r0,r1) false hq
      rw [kidsL] at hk
      obtain⟨CC,hCC⟩:∃ C,pagesF L g sn (k0,k1) (r0,r1) false=C:=⟨_,rfl⟩
      rw [hCC] at hC hok
      simp only [hCC] at hk
      obtain⟨⟨cn,ck⟩,sn2⟩:=CC
      have hkp2:KeepC w12 (wr.alloc (.cells #[.int .i64 k0,.int .i64 k1] 24)):=hkp.trans (KeepC.of_ext ((Ext.refl [] wr).alloc _))
      have e5:=cellOf hSa.rb 0
      have e6:=cellOf hSa.rb 1
      have HC:=zz hC
      have HD:=zz6 ⟨hSa,hok,hkp2,hk,hmore,hsl⟩
      clear hSa hC hok hkp2 hk hCC hS hkp hwf hmore
      go_wp2_with fail
      refine HC.out.mono ?_
      rintro e w14 ⟨rfl,hx14,hs14⟩
      have hS14:=HD.out.1.turn hx14 hs14 hne2 hne HPS.out.2.1 HPS.out.2.2 HPS.out.1
      have hkp14:KeepC w12 w14:=HD.out.2.2.1.trans (KeepC.of_map HD.out.1.seen hx14)
      have hok:=HD.out.2.1
      have hl2:sn2.length≤100000:=Nat.le_trans (qok_len hok.ok) hl
      have h1:=hok.low
      have h2:=hok.high
      have h3:=hok.more
      dsimp only at h1 h2 h3
      have hsl9:=HD.out.2.2.2.2.2
      have hm9:=HD.out.2.2.2.2.1
      have hk:=HD.out.2.2.2.1
      cases ck with
      | false=>
       rw [if_neg Bool.false_ne_true] at hk
       have hR:(((0:Int),false),sn2)=R:=by rw [←HRR.out,←hk]
       subst hR
       have HZ:=zz hS14
       clear HC HD hx14 hs14 hS14 hkp14 hok hk h1 h2 h3 hsl9 hm9 c1 c2 e5 e6
       go_wp2_with fail
       go_ret2
       exact⟨rfl,HZ.out.ext,HZ.out.seen⟩
      | true=>
       rw [if_pos rfl] at hk
       obtain⟨s2,hs2⟩:∃ s2:Nat,(s:Int)+cn=(s2:Int):=⟨((s:Int)+cn).toNat,by omega⟩
       rw [hs2] at hk
       have hb2:(s2:Int)≤100000:=by omega
       have hs3:s2≤sn2.length:=by omega
       have HZ:=zz6 ⟨hk,hok.ok,Nat.le_trans hm9 h3,hs3,hkp14,hS14⟩
       clear HC HD hx14 hs14 hS14 hkp14 hok hk h2 h3 hsl9 hm9 c1 c2 e5 e6 hs3
       go_wp2_with fail
       go_roundg g2
       case measure=>omega
       case rel=>exact⟨i+1,s2,sn2,by omega,by go_num,rfl,rfl,by go_num,HZ.out.1,HZ.out.2.1,HZ.out.2.2.1,HZ.out.2.2.2.1,HZ.out.2.2.2.2.1,HZ.out.2.2.2.2.2⟩
  | false=>
   cases hs with
   | false=>
    obtain rfl:B=true:=by rw [←hB]; rfl
    rw [if_pos rfl] at hR
    subst hR
    clear hB
    go_wp2_with fail
    go_ret2
    exact⟨rfl,HS10.out.ext,HS10.out.seen⟩
   | true=>
    by_cases e0:t0=q0
    case neg=>
     obtain rfl:B=true:=by rw [←hB]; simp [e0]
     rw [if_pos rfl] at hR
     subst hR
     clear hB
     go_wp2_with fail
     go_ret2
     exact⟨rfl,HS10.out.ext,HS10.out.seen⟩
    case pos=>
    subst e0
    by_cases e1:t1=q1
    case neg=>
     obtain rfl:B=true:=by rw [←hB]; simp [e1]
     rw [if_pos rfl] at hR
     subst hR
     clear hB
     go_wp2_with fail
     go_ret2
     exact⟨rfl,HS10.out.ext,HS10.out.seen⟩
    case pos=>
     subst e1
     obtain rfl:B=false:=by rw [←hB]; simp
     rw [if_neg Bool.false_ne_true] at hR
     clear hB
     have d0:W10.cell? ⟨q,0,none⟩=some (.int .i64 xnum):=cellOf HS10.out.ob 0
     have d1:W10.cell? ⟨q,1,none⟩=some (.int .i64 xgen):=cellOf HS10.out.ob 1
     have d2:W10.cell? ⟨q,2,none⟩=some (.slice xb xn xc):=cellOf HS10.out.ob 2
     have d3:W10.cell? ⟨q,3,none⟩=some (.bool xst):=cellOf HS10.out.ob 3
     have d4:W10.cell? ⟨q,4,none⟩=some (.string xdt):=cellOf HS10.out.ob 4
     have hPg:=page_walk o W10 HS10.out.nodes HO.out.2.2.1
     rw [HO.out.2.2.2.2.1,hpg] at hPg
     unfold objX at hPg
     have HPg:=zz hPg
     rw [hpg] at hR
     clear hPg
     go_wp2_with fail
     refine HPg.out.mono ?_
     rintro e w11 ⟨rfl,hx11⟩
     have HS11:=zz (HS10.out.on hx11)
     have d2:=hx11.cell d2
     clear hx11 HPg d0 d1 d3 d4 HS10 a0 a1 b0 b1
     cases pg with
     | true=>
      rw [if_pos rfl] at hR
      subst hR
      go_wp2_with fail
      go_ret2
      exact⟨rfl,HS11.out.ext,HS11.out.seen⟩
     | false=>
     rw [if_neg Bool.false_ne_true] at hR
     have hKw:=kids_walk o.tv o.tree w11 HS11.out.nodes HO.out.2.2.1
     rw [show o.tv=.slice xb xn xc by rw [HO.out.2.2.2.2.2.1,HO.out.2.2.2.2.2.2]] at hKw
     obtain⟨K,hK⟩:∃ K,(kidsN o.tree).1=K:=⟨_,rfl⟩
     obtain⟨ar,har⟩:∃ b,(kidsN o.tree).2.1=b:=⟨_,rfl⟩
     obtain⟨al,hal⟩:∃ b,(kidsN o.tree).2.2=b:=⟨_,rfl⟩
     have hKr:∀ r∈K,RfWf r:=fun r hr=>refs_wf (kids_ref (l:=o.tree) (by rw [hK]; exact hr))
     have hKl:K.length≤65536:=by rw [←hK]; exact kids_len o.tree
     rw [hK,har,hal] at hKw
     rw [hK,hal] at hR
     have HKw:=zz hKw
     have HK:=zz2 ⟨hKr,hKl⟩
     clear hKw hK har hal hKr
     go_wp2_with fail
     refine HKw.out.mono ?_
     rintro e w12 ⟨v12,rfl,S12⟩
     have HS12:=zz (HS11.out.on S12.ext)
     have hrow:w12.ownsRow 0 24 2 v12 K.length (rfC K):=S12.get 0 rfl
     obtain⟨kb,kc,rfl⟩:=row_slice hrow
     have hrc:∀ i u,(rfC K)[i]? = some u→∃ g,kb=some ⟨g,0,none⟩∧w12.cell? ⟨g,i,none⟩=some u:=fun i u hu=>by
      have hn:0<K.length:=by
       cases hK0:K with
       | nil=>rw [hK0] at hu; simp [rfC] at hu
       | cons a t=>simp
      obtain⟨g,cap,he⟩:=row_form hrow hn
      cases he
      exact⟨g,rfl,row_cell hrow hu⟩
     obtain⟨kn,hkn⟩:∃ kn,K.length=kn:=⟨_,rfl⟩
     rw [hkn]
     have HR:=zz2 ⟨hrc,hkn⟩
     clear S12 hrow hrc HKw HS11 d2
     cases al with
     | false=>
      rw [if_pos rfl] at hR
      subst hR
      go_wp2_with fail
      go_ret2
      exact⟨rfl,HS12.out.ext,HS12.out.seen⟩
     | true=>
     rw [if_neg (by simp)] at hR
     obtain⟨RK,hRK⟩:∃ RK,kidsL (fun sn k=>pagesF L g sn k (r0,r1) false) K 0 (seen++[(r0,r1)])=RK:=⟨_,rfl⟩
     rw [hRK] at hR
     have HF:=zz hRK
     have HRR:=zz hR
     clear hRK hR
     have HG9:=zz2 ⟨HW.out.2.2.2.2.1,HW.out.2.2.2.2.2.1⟩
     have HPS:=zz3 ⟨HW.out.2.1,HW.out.2.2.1,HW.out.2.2.2.1⟩
     clear HW hkn
     go_wp2_with fail
     go_loopg [8,9,19,21,22,23,105] kn (fun gg v8 v9 v19 v21 v22 v23 iv wr=>∃ (i s:Nat) (sn:List Rf),gg+i=kn∧iv=.int .i64 i∧v8=.int .i64 0∧v9=.bool false∧v19=.int .i64 s∧kidsL (fun sn k=>pagesF L g sn k (r0,r1) false) (K.drop i) s sn=RK∧QOk L sn∧(seen++[(r0,r1)]).length≤sn.length∧s≤sn.length∧KeepC w12 wr∧PgSt L w wr cb mb sb n p q (cntX vb vn vc m0 m1 mb sb) (objX xnum xgen xb xn xc xst xdt) r0 r1 t0 t1 sn o)
     case atStart=>exact⟨0,0,seen++[(r0,r1)],by omega,rfl,rfl,rfl,rfl,HF.out,HG9.out.1,Nat.le_refl _,Nat.zero_le _,fun _ _ h=>h,HS12.out⟩
     case round=>
      clear HS12
      obtain⟨i,s,sn,hgi,rfl,rfl,rfl,rfl,hk,hq,hmore,hsl,hkp,hS⟩:=hrel
      by_cases hlt:i<kn
      case neg=>
       obtain rfl:gk=0:=by omega
       rw [List.drop_of_length_le (by rw [HR.out.2]; omega)] at hk
       have hk:(some (s:Int),sn)=RK:=hk
       obtain⟨cv,hcv⟩:∃ cv,countN o.tree s=cv:=⟨_,rfl⟩
       have hR:((((s:Int),cv),sn):Cnt)=R:=by rw [←HRR.out,←hk,←hcv]
       subst hR
       have hGc:=get_walk o.tv o.tree kCount wr hS.nodes HO.out.2.2.1
       rw [show o.tv=.slice xb xn xc by rw [HO.out.2.2.2.2.2.1,HO.out.2.2.2.2.2.2]] at hGc
       have d2:wr.cell? ⟨q,2,none⟩=some (.slice xb xn xc):=cellOf hS.ob 2
       have HS:=zz hS
       clear hk hS hq hmore hsl hkp hIH HRR HF
       cases hgc:getN o.tree kCount with
       | none=>
        rw [hgc] at hGc
        simp only [Option.isSome_none,Option.getD_none] at hGc
        obtain rfl:cv=false:=by rw [←hcv]; unfold countN; rw [hgc]
        have HGc:=zz hGc
        clear hGc hgc
        go_wp2_with fail
        refine HGc.out.mono ?_
        rintro e w13 ⟨v13,rfl,hx13,hN13⟩
        obtain⟨tb3,tc3,rfl,-⟩:=hN13
        have HSz:=zz (HS.out.on hx13)
        clear hx13 HGc d2 HS
        go_upto_region 25 with fail
        go_quiet (fail)
        go_wp2_with fail
        go_ret2
        exact⟨rfl,HSz.out.ext.drewN _,HSz.out.seen.ext ((Ext.refl [] _).drewN _) (by simp)⟩
       | some t=>
        rw [hgc] at hGc
        simp only [Option.isSome_some,Option.getD_some] at hGc
        obtain⟨-,h0,-⟩:=get_tree hgc
        have hcn:countN o.tree s=((ndAt t 0).kind==3&&(ndAt t 0).n==(s:Int)):=by unfold countN; rw [hgc]
        obtain⟨x,hx0⟩:∃ x,ndAt t 0=x:=⟨_,rfl⟩
        rw [hx0] at hcn
        obtain⟨yk,yn,yg,ys,yK⟩:=x
        dsimp only at hcn
        have HGc:=zz hGc
        have HI:=zz2 ⟨h0,hx0⟩
        rw [hcv] at hcn
        clear hGc hgc hx0 hcv
        go_wp2_with fail
        refine HGc.out.mono ?_
        rintro e w13 ⟨v13,rfl,hx13,hN13⟩
        obtain⟨tb3,tc3,rfl,-,hN13⟩:=hN13
        obtain⟨zb,zq,rfl,z1,z2,-⟩:=node_in hN13 0 HI.out.1
        rw [Nat.zero_mul,Nat.add_zero,show ((0:Nat):Int)=0 from rfl,HI.out.2] at z1 z2
        dsimp only at z1 z2
        obtain⟨tl,htl⟩:∃ m,t.length=m:=⟨_,rfl⟩
        have h0:(0:Int)<(tl:Int):=by have:=HI.out.1; omega
        rw [htl]
        have HSz:=zz (HS.out.on hx13)
        clear hx13 HGc d2 HS hN13 HI htl
        go_upto_region 25 with fail
        by_cases e3:yk=3
        ·subst e3
         by_cases e4:yn=(s:Int)
         ·subst e4
          obtain rfl:cv=true:=by rw [hcn]; simp
          clear hcn
          go_quiet (fail)
          go_wp2_with fail
          go_ret2
          exact⟨rfl,HSz.out.ext.drewN _,HSz.out.seen.ext ((Ext.refl [] _).drewN _) (by simp)⟩
         ·obtain rfl:cv=false:=by rw [hcn]; simp [e4]
          have e4b:(yn==(s:Int))=false:=by simp [e4]
          clear hcn e4
          go_quiet (fail)
          go_wp2_with fail
          go_ret2
          exact⟨rfl,HSz.out.ext.drewN _,HSz.out.seen.ext ((Ext.refl [] _).drewN _) (by simp)⟩
        ·obtain rfl:cv=false:=by rw [hcn]; simp [e3]
         have e3b:(yk==3)=false:=by simp [e3]
         clear hcn e3
         go_quiet (fail)
         go_wp2_with fail
         go_ret2
         exact⟨rfl,HSz.out.ext.drewN _,HSz.out.seen.ext ((Ext.refl [] _).drewN _) (by simp)⟩
      case pos=>
       obtain⟨g2,rfl⟩:∃ g2,gk=g2+1:=⟨gk - 1,by omega⟩
       have hik:i<K.length:=by rw [HR.out.2]; exact hlt
       have hltz:(i:Int)<(kn:Int):=by omega
       obtain⟨c1,c2⟩:=rfC_at K i hik
       rw [List.drop_eq_getElem_cons hik] at hk
       have hwf:=HK.out.1 _ (List.getElem_mem hik)
       generalize K[i]'hik=kk at *
       obtain⟨k0,k1⟩:=kk
       obtain⟨kg,rfl,c1⟩:=HR.out.1 _ _ c1
       obtain⟨kg',he,c2⟩:=HR.out.1 _ _ c2
       cases he
       have c1:=hkp _ _ c1
       have c2:=hkp _ _ c2
       dsimp only at c1 c2
       have hSa:=hS.on ((Ext.refl [] wr).alloc (.cells #[.int .i64 k0,.int .i64 k1] 24))
       have hC:=hIH.out sn (k0,k1) (r0,r1) false _ hSa.ask hSa.cnt hSa.seen hq (by have:=HG9.out.2; omega) hwf
       dsimp only [mkR] at hC
       have hok:=pagesF_ok L g sn (k0,k1) (r0,r1) false hq
       rw [kidsL] at hk
       obtain⟨CC,hCC⟩:∃ C,pagesF L g sn (k0,k1) (r0,r1) false=C:=⟨_,rfl⟩
       rw [hCC] at hC hok
       simp only [hCC] at hk
       obtain⟨⟨cn,ck⟩,sn2⟩:=CC
       have hkp2:KeepC w12 (wr.alloc (.cells #[.int .i64 k0,.int .i64 k1] 24)):=hkp.trans (KeepC.of_ext ((Ext.refl [] wr).alloc _))
       have e5:=cellOf hSa.rb 0
       have e6:=cellOf hSa.rb 1
       have HC:=zz hC
       have HD:=zz6 ⟨hSa,hok,hkp2,hk,hmore,hsl⟩
       clear hSa hC hok hkp2 hk hCC hS hkp hwf hmore
       go_wp2_with fail
       refine HC.out.mono ?_
       rintro e w14 ⟨rfl,hx14,hs14⟩
       have hS14:=HD.out.1.turn hx14 hs14 hne2 hne HPS.out.2.1 HPS.out.2.2 HPS.out.1
       have hkp14:KeepC w12 w14:=HD.out.2.2.1.trans (KeepC.of_map HD.out.1.seen hx14)
       have hok:=HD.out.2.1
       have hl2:sn2.length≤100000:=Nat.le_trans (qok_len hok.ok) hl
       have h1:=hok.low
       have h2:=hok.high
       have h3:=hok.more
       dsimp only at h1 h2 h3
       have hsl9:=HD.out.2.2.2.2.2
       have hm9:=HD.out.2.2.2.2.1
       have hk:=HD.out.2.2.2.1
       cases ck with
       | false=>
        rw [if_neg Bool.false_ne_true] at hk
        have hR:(((0:Int),false),sn2)=R:=by rw [←HRR.out,←hk]
        subst hR
        have HZ:=zz hS14
        clear HC HD hx14 hs14 hS14 hkp14 hok hk h1 h2 h3 hsl9 hm9 c1 c2 e5 e6
        go_wp2_with fail
        go_ret2
        exact⟨rfl,HZ.out.ext,HZ.out.seen⟩
       | true=>
        rw [if_pos rfl] at hk
        obtain⟨s2,hs2⟩:∃ s2:Nat,(s:Int)+cn=(s2:Int):=⟨((s:Int)+cn).toNat,by omega⟩
        rw [hs2] at hk
        have hb2:(s2:Int)≤100000:=by omega
        have hs3:s2≤sn2.length:=by omega
        have HZ:=zz6 ⟨hk,hok.ok,Nat.le_trans hm9 h3,hs3,hkp14,hS14⟩
        clear HC HD hx14 hs14 hS14 hkp14 hok hk h2 h3 hsl9 hm9 c1 c2 e5 e6 hs3
        go_wp2_with fail
        go_roundg g2
        case measure=>omega
        case rel=>exact⟨i+1,s2,sn2,by omega,by go_num,rfl,rfl,by go_num,HZ.out.1,HZ.out.2.1,HZ.out.2.2.1,HZ.out.2.2.2.1,HZ.out.2.2.2.2.1,HZ.out.2.2.2.2.2⟩
end Pg
end Go.Proofs.YtljachhmdogkdaaGreatDoor
