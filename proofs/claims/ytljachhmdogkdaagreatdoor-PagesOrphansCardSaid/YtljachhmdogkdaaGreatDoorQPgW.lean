/-
 Texts PgW, as far as the statement needs them.
-/
import Derived.Test.YtljachhmdogkdaaGreatDoorQDgR
import Derived.Test.YtljachhmdogkdaaGreatDoorQPn
import Derived.Deep.LoopGhost
set_option maxRecDepth 100000
set_option maxHeartbeats 64000000
namespace Go.Proofs.YtljachhmdogkdaaGreatDoor
namespace Pg
open Go.RowKit
open Tr
open Rc
attribute [local go_sem] Oper.semAt_some
structure Stp where
 r:Rf
 b:Nat
 n:Nat
 f:ByteArray→Option Value
 G:Hg
abbrev stpC (s:Stp):List Value:=[.int .i64 s.r.1,.int .i64 s.r.2,.map (some s.b)]
def stksC (ST:List Stp):List Value:=ST.flatMap stpC
theorem stksC_append (a b:List Stp):stksC (a++b)=stksC a++stksC b:=by unfold stksC; rw [List.flatMap_append]
theorem stksC_len:∀ ST:List Stp,(stksC ST).length=ST.length*3
 | []=>rfl
 | x::L=>by
  have:=stksC_len L
  simp only [stksC,List.flatMap_cons,List.length_append,List.length_cons,List.length_nil] at this ⊢
  omega
theorem pot_le (seen:List Rf):∀ L:List Om,potN L seen≤L.length*65536
 | []=>Nat.le_refl _
 | x::L=>by
  have h1:=pot_le seen L
  have h2:=kids_len x.tree
  rw [potN,List.length_cons]
  split <;> omega
def StQ (L:List Om) (ST:List Stp) (out:List Om) (W:World):Prop:=(∀ s∈ST,HdAt W s.b s.n s.f s.G)∧((∀ x∈L,NodesAt W x.tv x.tree)→∀ y∈out,NodesAt W y.tv y.tree)
def mdl (ST:List Stp):List (Rf×Hg):=ST.map fun s=>(s.r,s.G)
theorem infoStep:(Tryz.prog.info? 109).map (fun i=>(i.zero,i.size,i.bytes))=some (some (.agg #[.int .i64 0,.int .i64 0,.map none]),3,24):=by kernel_rfl
theorem infoObj28:(Tryz.prog.info? 35).map (fun i=>(i.zero,i.size,i.bytes))=some (some (.agg #[.int .i64 0,.int .i64 0,.slice none 0 0,.bool false,.string ⟨#[]⟩]),5,64):=by kernel_rfl
theorem top_cells {w:World} {g cap:Nat} {s:Stp} {ST:List Stp} {n:Nat} (hn:ST.length=n) (h:w.ownsRow 0 109 3 (.slice (some ⟨g,0,none⟩) (n+1) cap) (n+1) (stksC (s::ST).reverse)) :
  w.cell? ⟨g,n*3,none⟩=some (.int .i64 s.r.1)∧w.cell? ⟨g,n*3+1,none⟩=some (.int .i64 s.r.2)∧w.cell? ⟨g,n*3+2,none⟩=some (.map (some s.b))∧
   w.ownsRow 0 109 3 (.slice (some ⟨g,0,none⟩) n cap) n (stksC ST.reverse):=by
 have hr:(s::ST).reverse=ST.reverse++[s]:=List.reverse_cons
 have hl:(stksC ST.reverse).length=n*3:=by rw [stksC_len,List.length_reverse,hn]
 have hx:stksC (s::ST).reverse=stksC ST.reverse++[.int .i64 s.r.1,.int .i64 s.r.2,.map (some s.b)]:=by rw [hr,stksC_append]; rfl
 rw [hx] at h
 refine⟨row_cell h ?_,row_cell h ?_,row_cell h ?_,?_⟩
 ·rw [List.getElem?_append_right (by omega),hl,Nat.sub_self]; rfl
 ·rw [List.getElem?_append_right (by omega),hl,Nat.add_sub_cancel_left]; rfl
 ·rw [List.getElem?_append_right (by omega),hl,Nat.add_sub_cancel_left]; rfl
 ·have:=row_less h (Nat.le_succ n)
  rwa [←hl,List.take_left] at this
abbrev GInv (L:List Om) (w:World) (R:List Om) (gb p5:Nat) (GX:Array Value) (g:Nat) (a:Go.Act) (wr:World):Prop:=
 ∃ (T:Array Value) (Ds:List Nat),a={ tmps:=T,defers:=Ds.map markD }∧T.size=113∧T[1]? = some (.pointer (some ⟨gb,0,none⟩))∧T[7]? = some (.map (some (p5+1)))∧Ds.Nodup∧
  ∃ (ST:List Stp) (seen:List Rf) (out:List Om) (F Fv:List Nat) (cb:Nat) (u6:Value),T[6]? = some u6∧T[8]? = some (.pointer (some ⟨cb,0,none⟩))∧
   Sep w wr [oVar 109 110 3 cb Fv ST.length (stksC ST.reverse),oSl 35 5 u6 out.length (omsC out),oAny F (StQ L ST out),Mp.oMp Tryz.prog 24 mkR (p5+1) seen.length (setF seen),Ob.one gb (.cells GX 62 (0,0)),oMarks Ds]∧
   walkF L g (mdl ST) seen (out.map bare)=R∧ST.length+potN L seen≤g∧QOk L seen∧(∀ s∈ST,RfWf s.r∧s.n≤4*seen.length)∧out.length≤seen.length∧g≤100000000
theorem gwalk_loop (L:List Om) (vb:Option Addr) (vn vc:Nat) (m0 m1:Int) (mb n:Nat) (w:World) (hA:AskAt w mb n L) (hr:RfWf (m0,m1)) (hC:∀ x∈L,cntE x.tree≤900) (hl:L.length≤1000) :
  Calls Tryz.prog 23 #[.agg #[.slice vb vn vc,.int .i64 m0,.int .i64 m1,.map (some mb)]] w fun e w'=>∃ v2 out F,e=.returned v2∧out.map bare=walkN (m0,m1) L∧Sep w w' [oSl 35 5 v2 out.length (omsC out),oAny F (StQ L [] out)]:=by
 obtain⟨j0,hjf,hy0,hy1,hy2⟩:=info_parts infoStep
 obtain⟨j1,hjg,hz0,hz1,hz2⟩:=info_parts infoObj28
 have hmm:=@run_makeMap Tryz.prog
 obtain⟨R,hR⟩:∃ R,walkN (m0,m1) L=R:=⟨_,rfl⟩
 rw [hR]
 unfold walkN at hR
 obtain⟨gb,hgb⟩:∃ p,w.heap.size=p:=⟨_,rfl⟩
 obtain⟨w0,hw0⟩:∃ W,w.alloc (.cells #[.slice vb vn vc,.int .i64 m0,.int .i64 m1,.map (some mb)] 62)=W:=⟨_,rfl⟩
 have hb0:w0.heap[gb]? = some (.cells #[.slice vb vn vc,.int .i64 m0,.int .i64 m1,.map (some mb)] 62 (0,0)):=by rw [←hw0,←hgb]; exact heap_alloc_at _
 have hx0:Ext [] w w0:=by rw [←hw0]; exact (Ext.refl [] w).alloc _
 have S0:Sep w w0 [Ob.one gb (.cells #[.slice vb vn vc,.int .i64 m0,.int .i64 m1,.map (some mb)] 62 (0,0)),oMarks []]:=((Sep.start w).new (Ext.refl _ _) (oMarks []) (fun D h=>(by cases h)) (fun k h=>(by cases h))).new hx0 _ hb0 (fun k hk=>by
  obtain rfl:k=gb:=by simpa [Ob.one] using hk
  omega)
 have HRo:=zz (root_walk (.slice vb vn vc) m0 m1 mb n L w0 ⟨_,_,_,rfl⟩ (hA.ext hx0) hr)
 have H0:=zz5 ⟨S0,hA,hr,hC,hl⟩
 have hnilO:∀ W:World,Ext [] w W→Sep w W [oSl 35 5 (.slice none 0 0) 0 (omsC []),oAny [] (StQ L [] [])]:=fun W hW=>
  (((Sep.start w).quiet hW).new (Ext.refl _ _) (oAny [] (StQ L [] [])) (oAny.start W (fun V=>⟨fun s hs=>(by cases hs),fun _ y hy=>(by cases hy)⟩)) (fun q hq=>by cases hq)).new (Ext.refl _ _) (oSl 35 5 (.slice none 0 0) 0 (omsC [])) (World.ownsRow_nil _ _ _ _) (fun q hq=>by simp [oSl,Value.ownBlock] at hq)
 have HNil:=zz hnilO
 have k0:w0.cell? ⟨gb,0,none⟩=some (.slice vb vn vc):=cellOf hb0 0
 have k1:w0.cell? ⟨gb,1,none⟩=some (.int .i64 m0):=cellOf hb0 1
 have k2:w0.cell? ⟨gb,2,none⟩=some (.int .i64 m1):=cellOf hb0 2
 have k3:w0.cell? ⟨gb,3,none⟩=some (.map (some mb)):=cellOf hb0 3
 clear S0 hx0 hb0 hA hr hC hl hnilO
 cases hf:findO L (m0,m1) with
 | none=>
  rw [hf,show rootB L (m0,m1)=false by unfold rootB; rw [hf]] at HRo
  rw [hf] at hR
  simp only at hR
  subst hR
  dsimp only [omVo] at HRo
  clear hf
  go_enter Tryz.func23,Tryz.ntmps23
  go_upto_region 1 with fail
  refine gen_world (fun W1 hW1=>?_)
  obtain rfl:w0=W1:=by first | exact hW1 | exact hw0.symm.trans hW1
  clear hW1 hw0
  go_wp2_with fail
  refine HRo.out.mono ?_
  rintro e w4 ⟨rfl,hx4⟩
  have HX4:=zz (H0.out.1.ext.trans hx4)
  clear hx4 HRo
  go_wp2_with fail
  go_ret
  exact⟨_,[],[],rfl,rfl,HNil.out _ (HX4.out.alloc _)⟩
 | some x=>
  rw [hf,show rootB L (m0,m1)=catN x by unfold rootB; rw [hf]] at HRo
  rw [hf] at hR
  simp only at hR
  dsimp only [omVo] at HRo
  have hxm:=(findO_mem hf).1
  have hA0:=H0.out.2.1
  have hxl:=(hA0.wf x hxm).lt
  have hxN:=hA0.nodes x hxm
  obtain⟨xb,xc,hxv⟩:=tree_slice hxN
  obtain⟨ct,hct⟩:∃ c,catN x=c:=⟨_,rfl⟩
  rw [hct] at hR HRo
  obtain⟨hs,hhs⟩:∃ b,(toN x.tree kPages).2=b:=⟨_,rfl⟩
  obtain⟨⟨t0,t1⟩,htt⟩:∃ b,(toN x.tree kPages).1=b:=⟨_,rfl⟩
  have hTo:=fun W (hx:Ext [] w W)=>to_walk x.tv x.tree kPages W (hxN.ext hx) hxl
  have htw:hs=true→RfWf (t0,t1):=fun h=>refs_wf (l:=x.tree) (by rw [←htt]; exact to_ref (by rw [hhs]; exact h))
  rw [hhs,htt] at hR hTo
  have hvt:omV x=.agg (objX x.num x.gen xb x.tree.length xc x.stream x.data):=by unfold omV; rw [hxv]; rfl
  rw [hvt] at HRo
  unfold objX at HRo
  rw [hxv] at hTo
  have HTo:=zz hTo
  obtain⟨xn,hxn⟩:∃ xn,x.tree.length=xn:=⟨_,rfl⟩
  rw [hxn] at HRo HTo
  have HTW:=zz htw
  have HH:=zz hR
  clear hf hxm hxl hxN hxv hct hhs htt hTo hvt hxn htw hR hA0
  cases ct with
  | false=>
   have hR:=HH.out
   rw [if_pos rfl] at hR
   subst hR
   go_enter Tryz.func23,Tryz.ntmps23
   go_upto_region 1 with fail
   refine gen_world (fun W1 hW1=>?_)
   obtain rfl:w0=W1:=by first | exact hW1 | exact hw0.symm.trans hW1
   clear hW1 hw0
   go_wp2_with fail
   refine HRo.out.mono ?_
   rintro e w4 ⟨rfl,hx4⟩
   have HX4:=zz hx4
   clear hx4 HRo k0 k1 k2 k3
   go_wp2_with fail
   go_ret
   exact⟨_,[],[],rfl,rfl,HNil.out _ ((H0.out.1.ext.trans HX4.out).alloc _)⟩
  | true=>
  cases hs with
  | false=>
   have hR:=HH.out
   rw [if_neg (by simp),if_pos rfl] at hR
   subst hR
   go_enter Tryz.func23,Tryz.ntmps23
   go_upto_region 1 with fail
   refine gen_world (fun W1 hW1=>?_)
   obtain rfl:w0=W1:=by first | exact hW1 | exact hw0.symm.trans hW1
   clear hW1 hw0
   go_wp2_with fail
   refine HRo.out.mono ?_
   rintro e w4 ⟨rfl,hx4⟩
   have HX4:=zz hx4
   clear hx4 HRo k0 k1 k2 k3
   go_wp2_with fail
   refine (HTo.out _ ((H0.out.1.ext.trans HX4.out).alloc _)).mono ?_
   rintro e w5 ⟨rfl,hx5⟩
   have HX5:=zz ((HX4.out.alloc _).trans hx5)
   clear hx5 HTo HX4
   go_wp2_with fail
   go_ret
   exact⟨_,[],[],rfl,rfl,HNil.out _ ((H0.out.1.ext.trans HX5.out).alloc _)⟩
  | true=>
  refine (callsIn_wide (n:=0)).1 (callsIn_of_wp_marks Tryz.func23 rfl trivial ((wpIn_wide (n:=0)).2 ?_))
  simp only [Tryz.ntmps23,List.size_toArray,List.length_cons,List.length_nil,Nat.reduceAdd,Nat.reduceSub,Array.replicate_succ,Array.replicate_zero,List.push_toArray,List.append_toArray,List.nil_append,List.cons_append]
  go_upto_region 1 with fail
  refine gen_world (fun W1 hW1=>?_)
  obtain rfl:w0=W1:=by first | exact hW1 | exact hw0.symm.trans hW1
  clear hW1 hw0
  go_wp2_with fail
  refine HRo.out.mono ?_
  rintro e w4 ⟨rfl,hx4⟩
  have HX4:=zz hx4
  clear hx4 HRo k0 k1 k2 k3
  go_wp2_with fail
  refine (HTo.out _ ((H0.out.1.ext.trans HX4.out).alloc _)).mono ?_
  rintro e w5 ⟨rfl,hx5⟩
  have HX5:=zz ((HX4.out.alloc _).trans hx5)
  clear hx5 HTo HX4
  have hR:=HH.out
  rw [if_neg (by simp),if_neg (by simp)] at hR
  have HW:=zz hR
  clear hR HH
  have htw:=HTW.out (by first | trivial | rfl)
  clear HTW
  go_upto_region 10 with fail
  refine gen_world (fun W6 hW6=>?_)
  obtain⟨p5,hp5⟩:∃ p,w5.heap.size=p:=⟨_,rfl⟩
  rw [hp5]
  obtain⟨V1,hV1⟩:∃ V,w5.alloc (.cells #[.int .i64 t0,.int .i64 t1] 24)=V:=⟨_,rfl⟩
  obtain⟨V2,hV2⟩:∃ V,V1.alloc (.map #[] 0)=V:=⟨_,rfl⟩
  obtain⟨V3,hV3⟩:∃ V,V2.alloc (.map #[] 0)=V:=⟨_,rfl⟩
  obtain⟨V4,hV4⟩:∃ V,V3.alloc (.cells #[.int .i64 t0,.int .i64 t1,.map (some (p5+2))] 109)=V:=⟨_,rfl⟩
  have e1:V1.heap.size=p5+1:=by rw [←hV1]; simp [hp5]
  have e2:V2.heap.size=p5+2:=by rw [←hV2]; simp [e1]
  have e3:V3.heap.size=p5+3:=by rw [←hV3]; simp [e2]
  have e4:V4.heap.size=p5+4:=by rw [←hV4]; simp [e3]
  have hW:V4.alloc (.cells #[.slice (some ⟨p5+3,0,none⟩) 1 1] 110)=W6:=by rw [←hW6,←hV4,←hV3,←hV2,←hV1,hp5]
  have x1:Ext [] w0 V1:=by rw [←hV1]; exact HX5.out.alloc _
  have x2:Ext [] V1 V2:=by rw [←hV2]; exact (Ext.refl [] V1).alloc _
  have x3:Ext [] V2 V3:=by rw [←hV3]; exact (Ext.refl [] V2).alloc _
  have x4:Ext [] V3 V4:=by rw [←hV4]; exact (Ext.refl [] V3).alloc _
  have x6:Ext [] V4 W6:=by rw [←hW]; exact (Ext.refl [] V4).alloc _
  have m1' : seenAt V2 (p5+1) []:=by have:=set_made V1; rw [hV2,e1] at this; exact this
  have m2' : strMap V3 (p5+2) 0 (fun _=>none):=by have:=Mp.MapAt.made V2 Tryz.prog 9 mkS; rw [hV3,e2] at this; exact this
  have hHd:(oAny [p5+2] (StQ L [⟨(t0,t1),p5+2,0,fun _=>none,fun _=>none⟩] [])).P V3:=⟨fun k hk=>by
    obtain rfl:=List.mem_singleton.1 hk
    omega,fun w' hw'=>⟨fun s hs=>by
     obtain rfl:=List.mem_singleton.1 hs
     exact⟨mapAt_same m2' (hw' _ (List.mem_singleton.2 rfl)),fun s hs=>(by cases hs),fun s=>rfl,fun s v t h=>(by cases h),fun s t h=>(by cases h)⟩,fun _ y hy=>(by cases hy)⟩⟩
  have T1:=H0.out.1.quiet x1
  have T2:=T1.new x2 (Mp.oMp Tryz.prog 24 mkR (p5+1) 0 (setF [])) m1' (fun k hk=>by simp [Mp.oMp] at hk; omega)
  have T3:=T2.new x3 _ hHd (fun k hk=>by
   obtain rfl:k=p5+2:=List.mem_singleton.1 hk
   omega)
  have T4:=T3.new (Ext.refl _ _) (oSl 35 5 (.slice none 0 0) 0 (omsC [])) (World.ownsRow_nil _ _ _ _) (fun q hq=>by simp [oSl,Value.ownBlock] at hq)
  have T5:=T4.new x4 (oSl 109 3 (.slice (some ⟨p5+3,0,none⟩) 1 1) 1 [.int .i64 t0,.int .i64 t1,.map (some (p5+2))])
   ⟨rfl,.inr ⟨p5+3,1,#[.int .i64 t0,.int .i64 t1,.map (some (p5+2))],rfl,Nat.zero_le _,by rw [←hV4,←e3]; exact heap_alloc_at _,Nat.le_refl _,by decide,rfl,rfl⟩⟩ (fun q hq=>by simp [oSl,Value.ownBlock] at hq; omega)
  have T6:=T5.var (T:=110) x6 (b:=p5+4) (by rw [←hW,←e4]; exact heap_alloc_at _) (by omega)
  have HT:=zz T6
  clear hV1 hV2 hV3 hV4 e1 e2 e3 e4 hW x1 x2 x3 x4 x6 m1' m2' hHd T1 T2 T3 T4 T5 T6 hW6 hp5 HNil HX5
  refine wp_loop_ghost_k (GInv L w R gb p5 #[.slice vb vn vc,.int .i64 m0,.int .i64 m1,.map (some mb)]) (1+potN L []) ?atStart ?round
  case atStart=>exact⟨_,[],rfl,rfl,rfl,rfl,List.nodup_nil,[⟨(t0,t1),p5+2,0,fun _=>none,fun _=>none⟩],[],[],_,_,p5+4,_,rfl,rfl,HT.out,HW.out,Nat.le_refl _,⟨List.nodup_nil,fun r hr=>(by cases hr)⟩,fun s hs=>by
   obtain rfl:=List.mem_singleton.1 hs
   exact⟨htw,Nat.zero_le _⟩,Nat.le_refl _,by have h1:=pot_le [] L; have h2:=H0.out.2.2.2.2; omega⟩
  case round=>
   clear HT HW htw
   intro gk a wr hinv
   obtain⟨T,Ds,rfl,hTs,hT1,hT7,hnd,ST,seen,out,F,Fv,cb,u6,hT6,hT8,S,hR,hpot,hq,hst,hol,hgb2⟩:=hinv
   obtain⟨u0,u1,u2,u3,u4,u5,v6,u7,u8,u9,u10,u11,u12,u13,u14,u15,u16,u17,u18,u19,u20,u21,u22,u23,u24,u25,u26,u27,u28,u29,u30,u31,u32,u33,u34,u35,u36,u37,u38,u39,u40,u41,u42,u43,u44,u45,u46,u47,u48,u49,u50,u51,u52,u53,u54,u55,u56,u57,u58,u59,u60,u61,u62,u63,u64,u65,u66,u67,u68,u69,u70,u71,u72,u73,u74,u75,u76,u77,u78,u79,u80,u81,u82,u83,u84,u85,u86,u87,u88,u89,u90,u91,u92,u93,u94,u95,u96,u97,u98,u99,u100,u101,u102,u103,u104,u105,u106,u107,u108,u109,u110,u111,u112,rfl⟩:=arr113e T hTs
   obtain rfl:u1=_:=Option.some.inj hT1
   obtain rfl:u7=_:=Option.some.inj hT7
   obtain rfl:u6=v6:=(Option.some.inj hT6).symm
   obtain rfl:u8=_:=Option.some.inj hT8
   clear hT1 hT7 hT6 hT8 hTs
   have HND:=zz hnd
   clear hnd
   intro _ _ _ _
   obtain⟨sv,hvb,hvr,hvF,hvn⟩:=(S.get 0 rfl:(oVar 109 110 3 cb Fv ST.length (stksC ST.reverse)).P wr)
   have a0:wr.cell? ⟨cb,0,none⟩=some sv:=cellOf hvb 0
   cases ST with
   | nil=>
    obtain⟨sb,sc,rfl⟩:=row_slice hvr
    have hRo:out.map bare=R:=by
     rw [←hR]
     cases gk <;> rfl
    have HF:=zz2 ⟨hRo,(sep_pick [1,2,5] S (by decide) rfl:Sep w wr [oSl 35 5 u6 out.length (omsC out),oAny F (StQ L [] out),oMarks Ds])⟩
    clear S hR hRo hpot hq hst hol hvb hvr hvF hvn
    rw [List.length_nil] at a0
    go_wp2_with fail
    refine leaves_marks (fun W=>results_tmp rfl _ _ _) Ds wr HND.out (HF.out.2.get 2 rfl) (fun W' hx=>⟨u6,out,F,rfl,HF.out.1,(sep_pick [0,1] HF.out.2 (by decide) rfl:Sep w wr [oSl 35 5 u6 out.length (omsC out),oAny F (StQ L [] out)]).extra hx (fun q hq=>⟨HF.out.2.base (oMarks Ds) (by simp) q hq,fun o ho hqo=>?_⟩)⟩)
    rcases List.mem_cons.1 ho with rfl | ho
    ·exact HF.out.2.apart 0 2 _ _ rfl rfl (by omega) q hqo hq
    ·obtain rfl:=List.mem_singleton.1 ho
     exact HF.out.2.apart 1 2 _ _ rfl rfl (by omega) q hqo hq
   | cons s ST=>
    obtain⟨g,rfl⟩:∃ g,gk=g+1:=⟨gk - 1,by simp only [List.length_cons] at hpot; omega⟩
    obtain⟨k,hk⟩:∃ k,ST.length=k:=⟨_,rfl⟩
    rw [List.length_cons,hk] at hvr hpot
    have hkb:k+1≤100000001:=by omega
    obtain⟨vg,vcap,rfl⟩:=row_form hvr (by omega)
    obtain⟨t1',t2',t3',t4'⟩:=top_cells hk hvr
    have hcap:k+1≤vcap:=by
     rcases hvr.2 with ⟨h,-⟩ | ⟨g',cap',cur,he,-,-,h1,-⟩
     ·cases h
     ·cases he; exact h1
    have f0:=freeOf hvb 0
    have hgs:=hst s (by simp)
    have hg3:=(S.get 4 rfl:(Ob.one gb (.cells #[.slice vb vn vc,.int .i64 m0,.int .i64 m1,.map (some mb)] 62 (0,0))).P wr)
    obtain⟨⟨s0,s1⟩,sbk,sn,sf,sG⟩:=s
    dsimp only at t1' t2' t3' hgs
    have HS:=zz7 ⟨S,hvb,hvr,hvF,hvn,t4',hg3⟩
    have HR:=zz6 ⟨hR,hpot,hq,hst,hol,hk⟩
    clear S hvb hvr hvF hvn t4' hg3 hR hpot hq hst hol
    clear hk
    go_upto_region 12 with fail
    refine gen_world (fun W7 hW7=>?_)
    obtain⟨bx,hbx⟩:∃ p,wr.heap.size=p:=⟨_,rfl⟩
    rw [hbx]
    have hx7:Ext [] wr W7:=by rw [←hW7]; exact (Ext.refl [] wr).alloc _
    have hbb:W7.heap[bx]? = some (.cells #[.int .i64 s0,.int .i64 s1,.map (some sbk)] 109 (0,0)):=by rw [←hW7,←hbx]; exact heap_alloc_at _
    have hcb7:=hx7.keep HS.out.2.1 (by simp)
    have a0:W7.cell? ⟨cb,0,none⟩=some (.slice (some ⟨vg,0,none⟩) (k+1) vcap):=cellOf hcb7 0
    have f0:=freeOf hcb7 0
    have S7:=HS.out.1.quiet hx7
    have hr7:=ownsRow_ext HS.out.2.2.2.2.2.1 hx7 (by simp)
    have HS7:=zz5 ⟨S7,hcb7,hr7,hbb,hx7⟩
    clear S7 hcb7 hr7 hbb hx7 hW7 t1' t2' t3'
    go_upto_region 13 with fail
    refine gen_world (fun W8 hW8=>?_)
    have hne:vg≠cb:=fun e=>HS.out.2.2.2.2.1 (by rw [e]; rfl)
    have hcbF:cb∈Fv:=by rw [HS.out.2.2.2.1]; exact List.mem_cons_self ..
    have hx8:Ext Fv W7 W8:=by rw [←hW8]; exact (Ext.refl Fv W7).setCell _ _ (.inl hcbF)
    have hx8c:Ext [cb] W7 W8:=by rw [←hW8]; exact (Ext.refl [cb] W7).setCell _ _ (.inl (List.mem_singleton.2 rfl))
    have hcb8:W8.heap[cb]? = some (.cells #[.slice (some ⟨vg,0,none⟩) k vcap] 110 (0,0)):=by rw [←hW8]; exact heap_setCell_same HS7.out.2.1 _
    have S8:=HS7.out.1.upd 0 (oVar 109 110 3 cb Fv k (stksC ST.reverse)) rfl hx8 (Fr.refl _ _) ⟨_,hcb8,ownsRow_ext HS7.out.2.2.1 hx8c (fun q hq hq2=>by
     obtain rfl:=List.mem_singleton.1 hq2
     exact hne (by simpa [Value.ownBlock] using hq)),HS.out.2.2.2.1,HS.out.2.2.2.2.1⟩
    have hbx8:W8.heap[bx]? = some (.cells #[.int .i64 s0,.int .i64 s1,.map (some sbk)] 109 (0,0)):=hx8c.keep HS7.out.2.2.2.1 (by
     have:=lt_of_block HS.out.2.1
     simp; omega)
    have hg8:W8.heap[gb]? = some (.cells #[.slice vb vn vc,.int .i64 m0,.int .i64 m1,.map (some mb)] 62 (0,0)):=S8.get 4 rfl
    have hA8:=H0.out.2.1.ext S8.ext
    obtain⟨kl,hkl⟩:=keyR (r:=(s0,s1)) (hgs.1)
    have hlook:=hA8.map.look_ok lawR Tryz.underlying60 (zeroObj W8) (x:=(s0,s1)) hkl
    have b0:W8.cell? ⟨bx,0,none⟩=some (.int .i64 s0):=cellOf hbx8 0
    have b1:W8.cell? ⟨bx,1,none⟩=some (.int .i64 s1):=cellOf hbx8 1
    have k3:W8.cell? ⟨gb,3,none⟩=some (.map (some mb)):=cellOf hg8 3
    have HS8:=zz6 ⟨S8,hcb8,hbx8,hkl,hgs,hx8c⟩
    have hwR:=HR.out.1
    rw [mdl,List.map_cons,walkF] at hwR
    clear hx8 hx8c hcb8 S8 hbx8 hg8 hA8 hkl a0 f0 hW8 hcbF hne hgs
    cases hf:findO L (s0,s1) with
    | none=>
     rw [show idxF L (s0,s1)=none by unfold idxF; rw [hf]; rfl] at hlook
     simp only [Option.getD_none,Option.isSome_none] at hlook
     simp only [hf] at hwR
     have HW:=zz hwR
     clear hwR hf
     go_upto_region 25 with fail
     refine gen_world (fun W9 hW9=>?_)
     have hx9:Ext [] W8 W9:=by rw [←hW9]; exact (Ext.refl [] W8).alloc _
     have hcz:=hx9.keep HS8.out.2.1 (by simp)
     have Sz:=HS8.out.1.quiet hx9
     have Sz:=Sz.upd 2 (oAny F (StQ L ST out)) rfl (Ext.refl _ _) (Fr.refl _ _) (oAny.imp (Sz.get 2 rfl) (fun W hW=>⟨fun s hs=>hW.1 s (List.mem_cons_of_mem _ hs),hW.2⟩))
     have hZ:=(⟨HW.out,by have:=HR.out.2.1; omega,HR.out.2.2.1,fun s hs=>HR.out.2.2.2.1 s (List.mem_cons_of_mem _ hs),HR.out.2.2.2.2.1⟩:walkF L g (mdl ST) seen (out.map bare)=R∧k+potN L seen≤g∧QOk L seen∧(∀ s∈ST,RfWf s.r∧s.n≤4*seen.length)∧out.length≤seen.length)
     clear hx9 hW9 hlook b0 b1 k3 HW
     have a0:W9.cell? ⟨cb,0,none⟩=some (.slice (some ⟨vg,0,none⟩) k vcap):=cellOf hcz 0
     have Sc:=(Sep.unvar Sz hcz).var (T:=110) ((Ext.refl [] W9).alloc (.cells #[.slice (some ⟨vg,0,none⟩) k vcap] 110)) (heap_alloc_at _) (Nat.le_refl _)
     have hkk:(ST).length=k:=by simp [HR.out.2.2.2.2.2]
     have HZ:=zz3 ⟨Sc,hZ,hkk⟩
     clear Sc Sz hcz hZ hkk
     go_wp2_with fail
     refine Handed.intro g ?measure ?_
     rotate_left
     go_step
     case measure=>omega
     exact⟨_,Ds,rfl,rfl,rfl,rfl,HND.out,ST,seen,out,F,_,W9.heap.size,_,rfl,rfl,by rw [HZ.out.2.2]; exact HZ.out.1,HZ.out.2.1.1,by rw [HZ.out.2.2]; exact HZ.out.2.1.2.1,HZ.out.2.1.2.2.1,HZ.out.2.1.2.2.2.1,HZ.out.2.1.2.2.2.2,by omega⟩
    | some o=>
     simp only [hf] at hwR
     have hom:=(findO_mem hf).1
     have hho:hasO L (s0,s1)=true:=by unfold hasO; rw [hf]; rfl
     have hoN:=H0.out.2.1.nodes o hom
     have hoL:=(H0.out.2.1.wf o hom).lt
     have hoC:=H0.out.2.2.2.1 o hom
     obtain⟨ob,oc,hov⟩:=tree_slice hoN
     rw [show idxF L (s0,s1)=some (omV o) by unfold idxF; rw [hf]; rfl,Option.getD_some,Option.isSome_some] at hlook
     have hvt:omV o=.agg (objX o.num o.gen ob o.tree.length oc o.stream o.data):=by unfold omV; rw [hov]; rfl
     rw [hvt] at hlook
     obtain⟨on,hon⟩:∃ on,o.tree.length=on:=⟨_,rfl⟩
     obtain⟨onum,honum⟩:∃ y,o.num=y:=⟨_,rfl⟩
     obtain⟨ogen,hogen⟩:∃ y,o.gen=y:=⟨_,rfl⟩
     obtain⟨ost,host⟩:∃ y,o.stream=y:=⟨_,rfl⟩
     obtain⟨odt,hodt⟩:∃ y,o.data=y:=⟨_,rfl⟩
     have hov2:o.tv=.slice ob on oc:=by rw [hov,hon]
     rw [hon,honum,hogen,host,hodt] at hlook hvt
     unfold objX at hlook hvt
     have HO:=zz12 ⟨hom,hho,hoN,hoL,hoC,hov2,hvt,hf,honum,hogen,host,hodt⟩
     have HWR:=zz hwR
     clear hom hho hoN hoL hoC hov hvt hf honum hogen host hodt hov2 hwR hon
     go_upto_region 14 with fail
     refine gen_world (fun W9 hW9=>?_)
     obtain⟨q,hq9⟩:∃ q,W8.heap.size=q:=⟨_,rfl⟩
     rw [hq9]
     have hx9:Ext [] W8 W9:=by rw [←hW9]; exact (Ext.refl [] W8).alloc _
     have hbq:W9.heap[q]? = some (.cells #[.int .i64 onum,.int .i64 ogen,.slice ob on oc,.bool ost,.string odt] 35 (0,0)):=by rw [←hW9,←hq9]; exact heap_alloc_at _
     have hcz:=hx9.keep HS8.out.2.1 (by simp)
     have hbx9:=hx9.keep HS8.out.2.2.1 (by simp)
     have Sz:=HS8.out.1.quiet hx9
     have hls:(Instr.lookup 91 (.map (some (p5+1))) (.agg #[.int .i64 s0,.int .i64 s1]) false).run Tryz.prog W9=.ok (.bool (decide ((s0,s1)∈seen))) W9:=by
      rw [←setF_look]; exact (Sz.get 3 rfl:Mp.MapAt Tryz.prog 24 mkR W9 (p5+1) seen.length (setF seen)).look lawR Tryz.underlying91 (zeroBoolW _) (x:=(s0,s1)) HS8.out.2.2.2.1
     have b0:W9.cell? ⟨bx,0,none⟩=some (.int .i64 s0):=cellOf hbx9 0
     have b1:W9.cell? ⟨bx,1,none⟩=some (.int .i64 s1):=cellOf hbx9 1
     have hqcb:q≠cb∧q≠bx:=by
      have h1:=lt_of_block HS8.out.2.1
      have h2:=lt_of_block HS8.out.2.2.1
      omega
     have S9q:=HS8.out.1.new hx9 (Ob.one q (.cells #[.int .i64 onum,.int .i64 ogen,.slice ob on oc,.bool ost,.string odt] 35 (0,0))) hbq (fun k hk=>by
      obtain rfl:k=q:=by simpa [Ob.one] using hk
      omega)
     have hbxp:bx≠p5+1:=by
      have h1:=(Mp.oMp Tryz.prog 24 mkR (p5+1) seen.length (setF seen)).lt (HS.out.1.get 3 rfl) (p5+1) (by simp [Mp.oMp])
      omega
     have HS9:=zz8 ⟨Sz,hcz,hbx9,hbq,hqcb,hx9,S9q,hbxp⟩
     clear hx9 hbq hbx9 hW9 hlook k3 hq9 hqcb S9q hbxp
     by_cases hs:(s0,s1)∈seen
     case pos=>
      rw [decide_eq_true hs] at hls
      have hwR:=HWR.out
      rw [if_pos hs] at hwR
      have Sz:=Sz.upd 2 (oAny F (StQ L ST out)) rfl (Ext.refl _ _) (Fr.refl _ _) (oAny.imp (Sz.get 2 rfl) (fun W hW=>⟨fun s hs=>hW.1 s (List.mem_cons_of_mem _ hs),hW.2⟩))
      have hZ:=(⟨hwR,by have:=HR.out.2.1; omega,HR.out.2.2.1,fun s hs=>HR.out.2.2.2.1 s (List.mem_cons_of_mem _ hs),HR.out.2.2.2.2.1⟩:walkF L g (mdl ST) seen (out.map bare)=R∧k+potN L seen≤g∧QOk L seen∧(∀ s∈ST,RfWf s.r∧s.n≤4*seen.length)∧out.length≤seen.length)
      clear hs hwR
      go_upto_region 25 with fail
      clear b0 b1 hls
      have a0:W9.cell? ⟨cb,0,none⟩=some (.slice (some ⟨vg,0,none⟩) k vcap):=cellOf hcz 0
      have Sc:=(Sep.unvar Sz hcz).var (T:=110) ((Ext.refl [] W9).alloc (.cells #[.slice (some ⟨vg,0,none⟩) k vcap] 110)) (heap_alloc_at _) (Nat.le_refl _)
      have hkk:(ST).length=k:=by simp [HR.out.2.2.2.2.2]
      have HZ:=zz3 ⟨Sc,hZ,hkk⟩
      clear Sc Sz hcz hZ hkk
      go_wp2_with fail
      refine Handed.intro g ?measure ?_
      rotate_left
      go_step
      case measure=>omega
      exact⟨_,Ds,rfl,rfl,rfl,rfl,HND.out,ST,seen,out,F,_,W9.heap.size,_,rfl,rfl,by rw [HZ.out.2.2]; exact HZ.out.1,HZ.out.2.1.1,by rw [HZ.out.2.2]; exact HZ.out.2.1.2.1,HZ.out.2.1.2.2.1,HZ.out.2.1.2.2.2.1,HZ.out.2.1.2.2.2.2,by omega⟩
     case neg=>
     rw [decide_eq_false hs] at hls
     have hwR:=HWR.out
     rw [if_neg hs] at hwR
     have hq2:=snoc_ok HR.out.2.2.1 HO.out.2.1 hs
     have hlen:seen.length≤1000:=Nat.le_trans (qok_len HR.out.2.2.1) H0.out.2.2.2.2
     have hpl:=pot_less HO.out.2.2.2.2.2.2.2.1 hs
     have HN:=zz4 ⟨hwR,hq2,hlen,hpl⟩
     have hM9:Mp.MapAt Tryz.prog 24 mkR W9 (p5+1) seen.length (setF seen):=Sz.get 3 rfl
     have HM9:=zz hM9
     clear hwR hq2 hpl hM9 Sz hcz hs HWR
     go_upto_region 16 with (first | (at_mapUpdate; refine Mp.wpList_store_mp rfl _ _ _ 91 rfl 4 lawR mkR_inj Tryz.underlying91 rfl HM9.out (by unfold maxLen; omega) (s0,s1) (.bool true) kl rfl rfl HS8.out.2.2.2.1 ?_; intro w10 hm10 hx10; rw [setF_more] at hm10; have HX10:=zz2 ⟨hm10,hx10⟩; clear hm10 hx10; rw [show ∀ a:Act,a.put none undef=a from fun _=>rfl]))
     have S10:=HS9.out.2.2.2.2.2.2.1.upd 4 (Mp.oMp Tryz.prog 24 mkR (p5+1) (seen++[(s0,s1)]).length (setF (seen++[(s0,s1)]))) rfl HX10.out.2 (Fr.refl _ _) (by rw [List.length_append]; exact HX10.out.1)
     have hcz:w10.heap[cb]? = some (.cells #[.slice (some ⟨vg,0,none⟩) k vcap] 110 (0,0)):=HX10.out.2.keep HS9.out.2.1 (fun h=>by
      obtain rfl:=List.mem_singleton.1 h
      exact HS9.out.1.apart 0 3 _ _ rfl rfl (by omega) (p5+1) (by rw [show (oVar 109 110 3 (p5+1) Fv k (stksC ST.reverse)).F=Fv from rfl,HS.out.2.2.2.1]; exact List.mem_cons_self ..) (by simp [Mp.oMp]))
     have hbx10:w10.heap[bx]? = some (.cells #[.int .i64 s0,.int .i64 s1,.map (some sbk)] 109 (0,0)):=HX10.out.2.keep HS9.out.2.2.1 (by simpa using HS9.out.2.2.2.2.2.2.2)
     have hbq:w10.heap[q]? = some (.cells #[.int .i64 onum,.int .i64 ogen,.slice ob on oc,.bool ost,.string odt] 35 (0,0)):=S10.get 0 rfl
     have hPg:=page_walk o w10 (HO.out.2.2.1.ext S10.ext) HO.out.2.2.2.1
     rw [HO.out.2.2.2.2.2.2.1] at hPg
     obtain⟨pg,hpg⟩:∃ b,pageN o=b:=⟨_,rfl⟩
     rw [hpg] at hPg
     have d0:w10.cell? ⟨q,0,none⟩=some (.int .i64 onum):=cellOf hbq 0
     have d1:w10.cell? ⟨q,1,none⟩=some (.int .i64 ogen):=cellOf hbq 1
     have d2:w10.cell? ⟨q,2,none⟩=some (.slice ob on oc):=cellOf hbq 2
     have d3:w10.cell? ⟨q,3,none⟩=some (.bool ost):=cellOf hbq 3
     have d4:w10.cell? ⟨q,4,none⟩=some (.string odt):=cellOf hbq 4
     have HPg:=zz hPg
     have H10:=zz5 ⟨S10,hcz,hbx10,hbq,hpg⟩
     clear S10 hcz hbx10 hbq hPg hpg b0 b1 hls HX10 HM9
     go_wp2_with fail
     refine HPg.out.mono ?_
     rintro e w11 ⟨rfl,hx11⟩
     have hb11:=hx11.keep H10.out.2.2.1 (by simp)
     have b2:w11.cell? ⟨bx,2,none⟩=some (.map (some sbk)):=cellOf hb11 2
     have d0:=hx11.cell d0
     have d1:=hx11.cell d1
     have d2:=hx11.cell d2
     have d3:=hx11.cell d3
     have d4:=hx11.cell d4
     have S11:=H10.out.1.quiet hx11
     have hcz11:=hx11.keep H10.out.2.1 (by simp)
     have hq11:=hx11.keep H10.out.2.2.2.1 (by simp)
     have HPN:=zz H10.out.2.2.2.2
     have H11:=zz4 ⟨S11,hcz11,hb11,hq11⟩
     clear hx11 hb11 S11 hcz11 hq11 HPg H10
     cases pg with
     | true=>
      have hSt:=(oAny.now (H11.out.1.get 3 rfl):StQ L (⟨(s0,s1),sbk,sn,sf,sG⟩::ST) out w11).1 _ (List.mem_cons_self ..)
      have hOn:=onto_walk sbk sn sf sG o.tv o.tree w11 hSt (HO.out.2.2.1.ext H11.out.1.ext) ⟨HO.out.2.2.2.1,HO.out.2.2.2.2.1⟩
      rw [hd_gd hSt,HO.out.2.2.2.2.2.1] at hOn
      obtain⟨R2,hR2⟩:∃ R2,ontoN o.tree (entsG sG (gdE sG))=R2:=⟨_,rfl⟩
      rw [hR2] at hOn
      have HOn:=zz hOn
      have HR2:=zz hR2
      clear hSt hOn hR2
      go_wp2_with fail
      refine HOn.out.mono ?_
      rintro e w12 ⟨v12,F12,rfl,S12⟩
      have hN12:NodesAt w12 v12 R2:=oAny.now (S12.get 0 rfl) (by rw [←HO.out.2.2.2.2.2.1]; exact HO.out.2.2.1.ext (H11.out.1.ext.trans S12.ext))
      obtain⟨nb,nc,hv12⟩:=tree_slice hN12
      obtain⟨nl,hnl⟩:∃ n,R2.length=n:=⟨_,rfl⟩
      rw [hnl] at hv12
      subst hv12
      have S13:Sep w w12 (oAny F12 (fun W=>NodesAt W (.slice ob on oc) o.tree→NodesAt W (.slice nb nl nc) R2)::[Ob.one q (.cells #[.int .i64 onum,.int .i64 ogen,.slice ob on oc,.bool ost,.string odt] 35 (0,0)),oVar 109 110 3 cb Fv k (stksC ST.reverse),oSl 35 5 u6 out.length (omsC out),oAny F (StQ L (⟨(s0,s1),sbk,sn,sf,sG⟩::ST) out),Mp.oMp Tryz.prog 24 mkR (p5+1) (seen++[(s0,s1)]).length (setF (seen++[(s0,s1)])),Ob.one gb (.cells #[.slice vb vn vc,.int .i64 m0,.int .i64 m1,.map (some mb)] 62 (0,0)),oMarks Ds]):=sep_cat H11.out.1 S12
      have hQa:=S13.get 0 rfl
      have hQb:=S13.get 4 rfl
      have S14:=Tr.Sep.glue (j:=3) S13 rfl (oAny (F12++F) (StQ L ST (out++[(⟨onum,ogen,.slice nb nl nc,ost,odt,R2⟩:Om)]))) (fun k hk=>by
       rcases List.mem_append.1 hk with hk | hk
       ·exact .inl hk
       ·exact .inr hk) (oAny.imp (oAny.both hQa hQb) (fun W hW=>⟨fun s hs=>hW.2.1 s (List.mem_cons_of_mem _ hs),fun hL y hy=>by
        rcases List.mem_append.1 hy with hy | hy
        ·exact hW.2.2 hL y hy
        ·obtain rfl:=List.mem_singleton.1 hy
         exact hW.1 (by rw [←HO.out.2.2.2.2.2.1]; exact hL o HO.out.1)⟩))
      have hq12:=S12.ext.keep H11.out.2.2.2 (by simp)
      have hcz12:=S12.ext.keep H11.out.2.1 (by simp)
      have f2:=freeOf hq12 2
      have d0:w12.cell? ⟨q,0,none⟩=some (.int .i64 onum):=cellOf hq12 0
      have d1:w12.cell? ⟨q,1,none⟩=some (.int .i64 ogen):=cellOf hq12 1
      have d2:w12.cell? ⟨q,2,none⟩=some (.slice ob on oc):=cellOf hq12 2
      have d3:w12.cell? ⟨q,3,none⟩=some (.bool ost):=cellOf hq12 3
      have d4:w12.cell? ⟨q,4,none⟩=some (.string odt):=cellOf hq12 4
      have H14:=zz3 ⟨S14,hq12,hcz12⟩
      clear S14 hq12 hcz12 hQa hQb S13 S12 hN12 hnl HOn b2
      go_upto_region 18 with fail
      refine gen_world (fun W13 hW13=>?_)
      have hx13:Ext [q] w12 W13:=by rw [←hW13]; exact (Ext.refl [q] w12).setCell _ _ (.inl (List.mem_singleton.2 rfl))
      have hq13:W13.heap[q]? = some (.cells #[.int .i64 onum,.int .i64 ogen,.slice nb nl nc,.bool ost,.string odt] 35 (0,0)):=by rw [←hW13]; exact heap_setCell_same H14.out.2.1 _
      have S15:=H14.out.1.upd 0 (Ob.one q (.cells #[.int .i64 onum,.int .i64 ogen,.slice nb nl nc,.bool ost,.string odt] 35 (0,0))) rfl hx13 (Fr.refl _ _) hq13
      have S16:=Tr.Sep.tail S15
      have hcz13:=hx13.keep H14.out.2.2 (by have:=HS9.out.2.2.2.2.1.1; simp; exact fun h=>this h.symm)
      have d0:W13.cell? ⟨q,0,none⟩=some (.int .i64 onum):=cellOf hq13 0
      have d1:W13.cell? ⟨q,1,none⟩=some (.int .i64 ogen):=cellOf hq13 1
      have d2:W13.cell? ⟨q,2,none⟩=some (.slice nb nl nc):=cellOf hq13 2
      have d3:W13.cell? ⟨q,3,none⟩=some (.bool ost):=cellOf hq13 3
      have d4:W13.cell? ⟨q,4,none⟩=some (.string odt):=cellOf hq13 4
      have hro:W13.ownsRow 0 35 5 u6 out.length (omsC out):=S16.get 1 rfl
      obtain⟨rb,rc,hu6⟩:=row_slice hro
      obtain⟨ol,hol⟩:∃ n,out.length=n:=⟨_,rfl⟩
      have holb:ol≤1000:=by have:=HR.out.2.2.2.2.1; omega
      rw [hol] at hu6 hro
      subst hu6
      have H16:=zz4 ⟨S16,hcz13,hro,hol⟩
      clear S16 S15 hx13 hq13 hcz13 hro hol hW13 f2 H14
      go_upto_region 25 with (first | (at_builtin; refine wpList_append_lies _ rfl _ _ 22 rfl 0 35 j1 _ 5 64 Tryz.underlying22 hjg hz0 hz1 hz2 rfl (by decide) (.slice rb ol rc) ol _ rfl (World.ownsRow.alloc H16.out.2.2.1 _) ⟨W13.heap.size,0,none⟩ 1 1 [.int .i64 onum,.int .i64 ogen,.slice nb nl nc,.bool ost,.string odt] rfl rfl (World.news_of_block (heap_alloc_at (w:=W13) _)) (by simp [Value.oneCell']) (by decide) (by unfold maxLen; omega) (by omega) (by omega) (W13.heap.size+1) (by simp) ?_; intro g6 cap2 w9 hown1 hgrow hat6 hlt6; have HGr:=zz3 ⟨hown1,hgrow,hat6⟩; clear hown1 hgrow hat6 hlt6 d0 d1 d2 d3 d4))
      have Pl:=push_local (cap:=cap2) (n:=ol+1) HGr.out.2.1 HGr.out.2.2
      obtain⟨y,hy⟩:∃ y,(⟨onum,ogen,.slice nb nl nc,ost,odt,R2⟩:Om)=y:=⟨_,rfl⟩
      have hyl:(out++[y]).length=ol+1:=by rw [List.length_append,H16.out.2.2.2]; rfl
      have hyc:omsC (out++[y])=omsC out++[.int .i64 onum,.int .i64 ogen,.slice nb nl nc,.bool ost,.string odt]:=by rw [omsC_append,←hy]; rfl
      have Sz:=H16.out.1.upd 1 (oSl 35 5 (.slice (some ⟨g6,0,none⟩) (ol+1) cap2) (out++[y]).length (omsC (out++[y]))) rfl Pl.1 Pl.2 (by
       show World.ownsRow _ 0 35 5 _ _ _
       rw [hyl,hyc]
       exact HGr.out.1)
      have hcz:w9.heap[cb]? = some (.cells #[.slice (some ⟨vg,0,none⟩) k vcap] 110 (0,0)):=grown_keep HGr.out.2.1 (heap_alloc_old _ H16.out.2.1) (fun h=>by
       refine H16.out.1.apart 0 1 _ _ rfl rfl (by omega) cb ?_ ?_
       ·rw [show (oVar 109 110 3 cb Fv k (stksC ST.reverse)).F=Fv from rfl,HS.out.2.2.2.1]; exact List.mem_cons_self ..
       ·show cb∈(Value.slice rb ol rc).ownBlock.toList
        rw [h]; simp)
      have hyb:bare y=pageO o sG:=by
       rw [←hy,←HR2.out,←HO.out.2.2.2.2.2.2.2.2.1,←HO.out.2.2.2.2.2.2.2.2.2.1,←HO.out.2.2.2.2.2.2.2.2.2.2.1,←HO.out.2.2.2.2.2.2.2.2.2.2.2]
       rfl
      have hwR:=HN.out.1
      rw [if_pos HPN.out] at hwR
      rw [hy] at Sz
      have hsl:(seen++[((s0,s1):Rf)]).length=seen.length+1:=by simp
      have hZ:=(⟨by rw [List.map_append,show [y].map bare=[pageO o sG] by rw [←hyb]; rfl]; exact hwR,by have h1:=HN.out.2.2.2; have h2:=HR.out.2.1; omega,HN.out.2.1,fun s hs=>by
       have:=HR.out.2.2.2.1 s (List.mem_cons_of_mem _ hs)
       exact⟨this.1,by rw [hsl]; omega⟩,by rw [hyl,hsl]; have:=HR.out.2.2.2.2.1; have:=H16.out.2.2.2; omega⟩:walkF L g (mdl ST) (seen++[(s0,s1)]) ((out++[y]).map bare)=R∧k+potN L (seen++[(s0,s1)])≤g∧QOk L (seen++[(s0,s1)])∧(∀ s∈ST,RfWf s.r∧s.n≤4*(seen++[(s0,s1)]).length)∧(out++[y]).length≤(seen++[(s0,s1)]).length)
      clear Pl hyc hyb hwR hsl hyl hy H16 HGr HR2
      have a0:w9.cell? ⟨cb,0,none⟩=some (.slice (some ⟨vg,0,none⟩) k vcap):=cellOf hcz 0
      have Sc:=(Sep.unvar Sz hcz).var (T:=110) ((Ext.refl [] w9).alloc (.cells #[.slice (some ⟨vg,0,none⟩) k vcap] 110)) (heap_alloc_at _) (Nat.le_refl _)
      have hkk:(ST).length=k:=by simp [HR.out.2.2.2.2.2]
      have HZ:=zz3 ⟨Sc,hZ,hkk⟩
      clear Sc Sz hcz hZ hkk
      go_wp2_with fail
      refine Handed.intro g ?measure ?_
      rotate_left
      go_step
      case measure=>omega
      exact⟨_,Ds,rfl,rfl,rfl,rfl,HND.out,ST,seen++[(s0,s1)],out++[y],F12++F,_,w9.heap.size,_,rfl,rfl,by rw [HZ.out.2.2]; exact HZ.out.1,HZ.out.2.1.1,by rw [HZ.out.2.2]; exact HZ.out.2.1.2.1,HZ.out.2.1.2.2.1,HZ.out.2.1.2.2.2.1,HZ.out.2.1.2.2.2.2,by omega⟩
     | false=>
      have hKw:=kids_walk o.tv o.tree w11 (HO.out.2.2.1.ext H11.out.1.ext) HO.out.2.2.2.1
      rw [HO.out.2.2.2.2.2.1] at hKw
      obtain⟨K,hK⟩:∃ K,(kidsN o.tree).1=K:=⟨_,rfl⟩
      obtain⟨ar,har⟩:∃ b,(kidsN o.tree).2.1=b:=⟨_,rfl⟩
      obtain⟨al,hal⟩:∃ b,(kidsN o.tree).2.2=b:=⟨_,rfl⟩
      have hKr:∀ r∈K,RfWf r:=fun r hr=>refs_wf (kids_ref (l:=o.tree) (by rw [hK]; exact hr))
      have hKl:K.length≤65536:=by rw [←hK]; exact kids_len o.tree
      rw [hK,har,hal] at hKw
      have hlf:leafN o=(ost || !ar):=by unfold leafN; rw [HO.out.2.2.2.2.2.2.2.2.2.2.1,har]
      have hwR:=HN.out.1
      rw [if_neg (by rw [HPN.out]; simp),hlf,hK] at hwR
      have HKw:=zz hKw
      have HK:=zz4 ⟨hKr,hKl,hwR,hK⟩
      clear hKw hK har hal hKr hKl hlf hwR
      go_wp2_with fail
      refine HKw.out.mono ?_
      rintro e w12 ⟨v12,rfl,S12⟩
      have S13:Sep w w12 [oSl 24 2 v12 K.length (rfC K),Ob.one q (.cells #[.int .i64 onum,.int .i64 ogen,.slice ob on oc,.bool ost,.string odt] 35 (0,0)),oVar 109 110 3 cb Fv k (stksC ST.reverse),oSl 35 5 u6 out.length (omsC out),oAny F (StQ L (⟨(s0,s1),sbk,sn,sf,sG⟩::ST) out),Mp.oMp Tryz.prog 24 mkR (p5+1) (seen++[(s0,s1)]).length (setF (seen++[(s0,s1)])),Ob.one gb (.cells #[.slice vb vn vc,.int .i64 m0,.int .i64 m1,.map (some mb)] 62 (0,0)),oMarks Ds]:=sep_cat H11.out.1 S12
      obtain⟨kb,kc,hv12⟩:=row_slice (S12.get 0 rfl:w12.ownsRow 0 24 2 v12 K.length (rfC K))
      subst hv12
      obtain⟨kn,hkn⟩:∃ kn,K.length=kn:=⟨_,rfl⟩
      rw [hkn] at S13 ⊢
      have hq12:=S12.ext.keep H11.out.2.2.2 (by simp)
      have hcz:=S12.ext.keep H11.out.2.1 (by simp)
      have hbx12:=S12.ext.keep H11.out.2.2.1 (by simp)
      have d2:w12.cell? ⟨q,2,none⟩=some (.slice ob on oc):=cellOf hq12 2
      have d3:w12.cell? ⟨q,3,none⟩=some (.bool ost):=cellOf hq12 3
      have b2:w12.cell? ⟨bx,2,none⟩=some (.map (some sbk)):=cellOf hbx12 2
      have hsl:(seen++[((s0,s1):Rf)]).length=seen.length+1:=by simp
      have HKK:=zz hkn
      have H13:=zz3 ⟨S13,hcz,hsl⟩
      clear S13 S12 hq12 hbx12 HKw d0 d1 d4 hcz hsl hkn
      cases hlv:(ost || !ar) with
      | true=>
       have hwR:=HK.out.2.2.1
       rw [hlv,if_pos rfl] at hwR
       have S14:=Tr.Sep.tail (Tr.Sep.tail H13.out.1)
       have hcz:=H13.out.2.1
       have hsl:=H13.out.2.2
       have Sz:=S14.upd 2 (oAny F (StQ L ST out)) rfl (Ext.refl _ _) (Fr.refl _ _) (oAny.imp (S14.get 2 rfl) (fun W hW=>⟨fun s hs=>hW.1 s (List.mem_cons_of_mem _ hs),hW.2⟩))
       have hZ:=(⟨hwR,by have h1:=HN.out.2.2.2; have h2:=HR.out.2.1; omega,HN.out.2.1,fun s hs=>by
        have:=HR.out.2.2.2.1 s (List.mem_cons_of_mem _ hs)
        exact⟨this.1,by rw [hsl]; omega⟩,by rw [hsl]; have:=HR.out.2.2.2.2.1; omega⟩:walkF L g (mdl ST) (seen++[(s0,s1)]) (out.map bare)=R∧k+potN L (seen++[(s0,s1)])≤g∧QOk L (seen++[(s0,s1)])∧(∀ s∈ST,RfWf s.r∧s.n≤4*(seen++[(s0,s1)]).length)∧out.length≤(seen++[(s0,s1)]).length)
       clear S14 hwR hsl b2 d2
       cases ost with
       | true=>
        go_upto_region 25 with fail
        clear d3
        have a0:w12.cell? ⟨cb,0,none⟩=some (.slice (some ⟨vg,0,none⟩) k vcap):=cellOf hcz 0
        have Sc:=(Sep.unvar Sz hcz).var (T:=110) ((Ext.refl [] w12).alloc (.cells #[.slice (some ⟨vg,0,none⟩) k vcap] 110)) (heap_alloc_at _) (Nat.le_refl _)
        have hkk:(ST).length=k:=by simp [HR.out.2.2.2.2.2]
        have HZ:=zz3 ⟨Sc,hZ,hkk⟩
        clear Sc Sz hcz hZ hkk
        go_wp2_with fail
        refine Handed.intro g ?measure ?_
        rotate_left
        go_step
        case measure=>omega
        exact⟨_,Ds,rfl,rfl,rfl,rfl,HND.out,ST,seen++[(s0,s1)],out,F,_,w12.heap.size,_,rfl,rfl,by rw [HZ.out.2.2]; exact HZ.out.1,HZ.out.2.1.1,by rw [HZ.out.2.2]; exact HZ.out.2.1.2.1,HZ.out.2.1.2.2.1,HZ.out.2.1.2.2.2.1,HZ.out.2.1.2.2.2.2,by omega⟩
       | false=>
        obtain rfl:ar=false:=by simpa using hlv
        go_upto_region 25 with fail
        clear d3
        have a0:w12.cell? ⟨cb,0,none⟩=some (.slice (some ⟨vg,0,none⟩) k vcap):=cellOf hcz 0
        have Sc:=(Sep.unvar Sz hcz).var (T:=110) ((Ext.refl [] w12).alloc (.cells #[.slice (some ⟨vg,0,none⟩) k vcap] 110)) (heap_alloc_at _) (Nat.le_refl _)
        have hkk:(ST).length=k:=by simp [HR.out.2.2.2.2.2]
        have HZ:=zz3 ⟨Sc,hZ,hkk⟩
        clear Sc Sz hcz hZ hkk
        go_wp2_with fail
        refine Handed.intro g ?measure ?_
        rotate_left
        go_step
        case measure=>omega
        exact⟨_,Ds,rfl,rfl,rfl,rfl,HND.out,ST,seen++[(s0,s1)],out,F,_,w12.heap.size,_,rfl,rfl,by rw [HZ.out.2.2]; exact HZ.out.1,HZ.out.2.1.1,by rw [HZ.out.2.2]; exact HZ.out.2.1.2.1,HZ.out.2.1.2.2.1,HZ.out.2.1.2.2.2.1,HZ.out.2.1.2.2.2.2,by omega⟩
      | false=>
       have HKE:=zz (by have:=HK.out.2.2.1; rw [hlv,if_neg (by simp)] at this; exact this:walkF L g ((K.map fun k=>(k,withG sG o.tree))++mdl ST) (seen++[(s0,s1)]) (out.map bare)=R)
       obtain⟨rfl,rfl⟩:ost=false∧ar=true:=by simpa using hlv
       have hSt:=(oAny.now (H13.out.1.get 4 rfl):StQ L (⟨(s0,s1),sbk,sn,sf,sG⟩::ST) out w12).1 _ (List.mem_cons_self ..)
       have hsn:=(HR.out.2.2.2.1 ⟨(s0,s1),sbk,sn,sf,sG⟩ (List.mem_cons_self ..)).2
       have hsnb:sn≤1000000:=by have h1:sn≤4*seen.length:=hsn; have h2:=HN.out.2.2.1; omega
       have hWi:=withH_walk sbk sn sf (.slice ob on oc) o.tree w12 hSt.map (by rw [←HO.out.2.2.2.2.2.1]; exact HO.out.2.2.1.ext H13.out.1.ext) HO.out.2.2.2.1 hsnb
       have HWi:=zz hWi
       clear hSt hsn hWi hsnb hlv
       go_wp2_with fail
       refine HWi.out.mono ?_
       rintro e w13 ⟨b3,f3,F3,rfl,S14,hWF⟩
       have S15:Sep w w13 (Mp.oMp Tryz.prog 9 mkS b3 (sn+4) f3::oAny F3 (WithQ o.tree names4 f3)::[oSl 24 2 (.slice kb kn kc) kn (rfC K),Ob.one q (.cells #[.int .i64 onum,.int .i64 ogen,.slice ob on oc,.bool false,.string odt] 35 (0,0)),oVar 109 110 3 cb Fv k (stksC ST.reverse),oSl 35 5 u6 out.length (omsC out),oAny F (StQ L (⟨(s0,s1),sbk,sn,sf,sG⟩::ST) out),Mp.oMp Tryz.prog 24 mkR (p5+1) (seen++[(s0,s1)]).length (setF (seen++[(s0,s1)])),Ob.one gb (.cells #[.slice vb vn vc,.int .i64 m0,.int .i64 m1,.map (some mb)] 62 (0,0)),oMarks Ds]):=sep_cat H13.out.1 S14
       have hQ1:=oMp.any (S15.get 0 rfl)
       have hQ2:=S15.get 1 rfl
       have hQ3:=S15.get 6 rfl
       have S16:=Tr.Sep.glue (j:=0) S15 rfl (oAny ([b3]++F3) (fun W=>strMap W b3 (sn+4) f3∧WithQ o.tree names4 f3 W)) (fun k hk=>by
        rcases List.mem_append.1 hk with hk | hk
        ·exact .inl hk
        ·exact .inr hk) (oAny.both hQ1 hQ2)
       have S17:=Tr.Sep.glue (j:=4) S16 rfl (oAny (([b3]++F3)++F) (fun W=>StQ L ST out W∧HdAt W b3 (sn+4) f3 (withG sG o.tree))) (fun k hk=>by
        rcases List.mem_append.1 hk with hk | hk
        ·exact .inl hk
        ·exact .inr hk) (oAny.imp (oAny.both (oAny.both hQ1 hQ2) hQ3) (fun W hW=>⟨⟨fun s hs=>hW.2.1 s (List.mem_cons_of_mem _ hs),hW.2.2⟩,hd_with HO.out.2.2.2.1 (hW.2.1 _ (List.mem_cons_self ..)) ((hW.2.1 _ (List.mem_cons_self ..)).val) hW.1.1 hW.1.2 hWF⟩))
       have hcz13:=S14.ext.keep H13.out.2.1 (by simp)
       have hsl:=H13.out.2.2
       obtain⟨G2,hG2⟩:∃ G,withG sG o.tree=G:=⟨_,rfl⟩
       obtain⟨F4,hF4⟩:∃ l,([b3]++F3)++F=l:=⟨_,rfl⟩
       rw [hG2,hF4] at S17
       have HK2:=zz HKE.out
       rw [hG2] at HK2
       have H17:=zz3 ⟨S17,hcz13,hsl⟩
       clear S17 S16 S15 hQ1 hQ2 hQ3 hcz13 hsl S14 hWF HWi HKE hF4 hG2 d2 d3 b2
       go_upto_region 22 with fail
       refine gen_world (fun W14 hW14=>?_)
       obtain⟨hb,hhb⟩:∃ p,w13.heap.size=p:=⟨_,rfl⟩
       rw [hhb]
       have hx14:Ext [] w13 W14:=by rw [←hW14]; exact (Ext.refl [] w13).alloc _
       have hhc:W14.heap[hb]? = some (.cells #[.map (some b3)] 107 (0,0)):=by rw [←hW14,←hhb]; exact heap_alloc_at _
       have S18:=H17.out.1.new hx14 (Ob.one hb (.cells #[.map (some b3)] 107 (0,0))) hhc (fun k hk=>by
        obtain rfl:k=hb:=by simpa [Ob.one] using hk
        omega)
       have H18:=zz3 ⟨S18,hx14.keep H17.out.2.1 (by simp),H17.out.2.2⟩
       clear S18 hhc hx14 hW14 hhb H17
       go_wp2_with fail
       refine (backR_walk kb kn kc _).mono ?_
       rintro e w15 ⟨rfl,rfl⟩
       obtain⟨bb,hbb⟩:∃ p,W14.heap.size=p:=⟨_,rfl⟩
       rw [hbb]
       obtain⟨w15,hw15⟩:∃ w15,W14.alloc (.cells #[.slice kb kn kc] 36)=w15:=⟨_,rfl⟩
       have hx15:Ext [] W14 w15:=by rw [←hw15]; exact (Ext.refl [] W14).alloc _
       have hb15:w15.heap[bb]? = some (.cells #[.slice kb kn kc] 36 (0,0)):=by rw [←hw15,←hbb]; exact heap_alloc_at _
       have hs15:w15.heap.size=bb+1:=by rw [←hw15]; simp [hbb]
       rw [hw15]
       have S19:Sep w W14 [oVar 109 110 3 cb Fv k (stksC ST.reverse),oSl 24 2 (.slice kb kn kc) kn (rfC K),oSl 35 5 u6 out.length (omsC out),oAny F4 (fun W=>StQ L ST out W∧HdAt W b3 (sn+4) f3 G2),Mp.oMp Tryz.prog 24 mkR (p5+1) (seen++[(s0,s1)]).length (setF (seen++[(s0,s1)])),Ob.one gb (.cells #[.slice vb vn vc,.int .i64 m0,.int .i64 m1,.map (some mb)] 62 (0,0)),oMarks Ds,Ob.one hb (.cells #[.map (some b3)] 107 (0,0))]:=sep_pick [3,1,4,5,6,7,8,0] H18.out.1 (by decide) rfl
       have hkr:W14.ownsRow 0 24 2 (.slice kb kn kc) kn (rfC K):=S19.get 1 rfl
       obtain⟨g0,hgo,hgw,hgk⟩:∃ g0,(1≤kn→kb=some ⟨g0,0,none⟩)∧g0<bb+1∧(1≤kn→g0∈(oSl 24 2 (.slice kb kn kc) kn (rfC K)).F):=by
        by_cases h1:1≤kn
        ·obtain⟨g0,c0,he⟩:=row_form hkr h1
         injection he with he
         have hm0:g0∈(oSl 24 2 (.slice kb kn kc) kn (rfC K)).F:=by rw [he]; simp [oSl,Value.ownBlock]
         refine⟨g0,fun _=>he,?_,fun _=>hm0⟩
         have:=(oSl 24 2 (.slice kb kn kc) kn (rfC K)).lt hkr g0 hm0
         omega
        ·exact⟨bb,fun h=>absurd h h1,Nat.lt_succ_self _,fun h=>absurd h h1⟩
       have hcs:∀ j,j<kn→∀ c u,(So.encN (K.getD j default))[c]? = some u→w15.cell? ⟨g0,0+j*2+c,none⟩=some u:=fun j hj c u hu=>by
        have hjK:j<K.length:=by rw [HKK.out]; exact hj
        obtain rfl:=hgo (by omega)
        obtain⟨q1,q2⟩:=rfC_at K j hjK
        rw [List.getD_eq_getElem?_getD,List.getElem?_eq_getElem hjK,Option.getD_some] at hu
        have hc2:c<2:=(List.getElem?_eq_some_iff.1 hu).1
        have hm:c=0∨c=1:=by omega
        rw [Nat.zero_add]
        rcases hm with rfl | rfl
        ·rw [Nat.add_zero]; exact hx15.cell (row_cell hkr (q1.trans hu))
        ·exact hx15.cell (row_cell hkr (q2.trans hu))
       have HG:=zz8 ⟨hx15,hb15,hs15,hgo,hgw,hgk,hcs,hbb⟩
       have HS19:=zz S19
       have hknb:kn≤65536:=by have:=HK.out.2.1; have:=HKK.out; omega
       have HHB:=zz (H18.out.1.get 0 rfl:W14.heap[hb]? = some (.cells #[.map (some b3)] 107 (0,0)))
       clear hx15 hb15 hs15 hgo hgw hgk hcs hbb S19 hkr hw15
       go_wp2_with fail
       refine wp_rangeA (gf:=96) (lb:=#[.pointer (some ⟨bb,0,none⟩)]) rfl (Go.Proofs.enters_of Tryz.func96 (by kernel_rfl) rfl) (backR_iter kn kc bb g0 0 kb K w15 (by omega) HG.out.2.2.2.1 HG.out.2.2.2.2.2.2.1) (fun _=>rfl)
        (bb+1) (bb+2) HG.out.2.2.1 (by rw [HG.out.2.2.1]) (by simp) (fun q hq=>by
         have h1:=HG.out.2.2.1
         have h2:=HG.out.2.2.2.2.1
         simp at hq
         omega) (fun W hx=>⟨hx.keep HG.out.2.1 (by simp),fun _=>hx.block g0 (by have h1:=HG.out.2.2.1; have h2:=HG.out.2.2.2.2.1; omega) (by simp)⟩)
        (fun pre W=>pre.length≤kn∧∃ Fv',Sep w W [oVar 109 110 3 cb Fv' (k+pre.length) (stksC ((K.drop (kn - pre.length)).map (fun r=>(⟨r,b3,sn+4,f3,G2⟩:Stp))++ST).reverse),Ob.room [bb,bb+1,bb+2],oSl 24 2 (.slice kb kn kc) kn (rfC K),oSl 35 5 u6 out.length (omsC out),oAny F4 (fun W=>StQ L ST out W∧HdAt W b3 (sn+4) f3 G2),Mp.oMp Tryz.prog 24 mkR (p5+1) (seen++[(s0,s1)]).length (setF (seen++[(s0,s1)])),Ob.one gb (.cells #[.slice vb vn vc,.int .i64 m0,.int .i64 m1,.map (some mb)] 62 (0,0)),oMarks Ds,Ob.one hb (.cells #[.map (some b3)] 107 (0,0))])
        (fun _ _ _=>False)
        (fun pre A B h hx=>by
         obtain⟨h1,Fv',h2⟩:=h
         exact⟨h1,Fv',h2.upd 1 (Ob.room [bb,bb+1,bb+2]) rfl (hx.mono (fun i _ hi=>by simp at hi; simp [Ob.room]; omega)) (Fr.refl _ _) (fun q hq=>Nat.lt_of_lt_of_le (h2.get 1 rfl q hq) hx.size)⟩)
        (fun _ _ _ _ h _=>h)
        (fun W hx hw2=>by
         have h1:=HG.out.2.2.1
         refine⟨Nat.zero_le _,Fv,?_⟩
         have hd:K.drop (kn - ([]:List Nat).length)=[]:=List.drop_eq_nil_of_le (by rw [HKK.out]; exact Nat.le_refl _)
         rw [hd]
         exact sep_pick [1,0,2,3,4,5,6,7,8] (HS19.out.new (HG.out.1.trans hx) (Ob.room [bb,bb+1,bb+2]) (fun q hq=>by simp at hq; omega) (fun q hq=>by have:=HG.out.2.2.2.2.2.2.2; simp [Ob.room] at hq; omega)) (by decide) rfl)
        ?round2 ?done ?stop
       case stop=>exact fun _ _ _ _ _ _ h _=>h.elim
       case round2=>
        rintro pre x post W hxs ⟨hpl,Fv',S⟩ hlt
        obtain⟨rfl,hxn⟩:=range_pre hxs
        have HSr:=zz S
        clear S hxs
        unfold backR_iterE
        obtain⟨j,hj⟩:∃ j,pre.length=j:=⟨_,rfl⟩
        rw [hj] at hxn hpl
        simp only [hj]
        have hjL:kn - 1 - j<K.length:=by rw [HKK.out]; omega
        have hdb:K.drop (kn - (j+1))=K[kn - 1 - j]'hjL::K.drop (kn - j):=by
         rw [show kn - (j+1)=kn - 1 - j by omega,List.drop_eq_getElem_cons hjL,show kn - 1 - j+1=kn - j by omega]
        have hge:K.getD (kn - 1 - j) default=K[kn - 1 - j]'hjL:=by rw [List.getD_eq_getElem?_getD,List.getElem?_eq_getElem hjL]; rfl
        rw [hge]
        generalize K[kn - 1 - j]'hjL=kk at *
        obtain⟨k0,k1⟩:=kk
        have HDB:=zz2 ⟨hdb,hj⟩
        clear hge hdb hjL hj
        gi_wp2_with fail
        refine⟨(Ext.refl _ _).alloc _,fun ob2=>?_⟩
        obtain⟨XW,hXW⟩:∃ XW,W.alloc (.cells #[.int .i64 k0,.int .i64 k1] 24)=XW:=⟨_,rfl⟩
        obtain⟨xb,hxb⟩:∃ xb,W.heap.size=xb:=⟨_,rfl⟩
        have hxa:Ext [] W XW:=by rw [←hXW]; exact (Ext.refl [] W).alloc _
        have hbx2:XW.heap[xb]? = some (.cells #[.int .i64 k0,.int .i64 k1] 24 (0,0)):=by rw [←hXW,←hxb]; exact heap_alloc_at _
        simp only [hXW,hxb]
        obtain⟨V,hV⟩:∃ V,XW.putObj (bb+2) ob2=V:=⟨_,rfl⟩
        have hxv:Ext [bb+2] XW V:=by rw [←hV]; exact Ext.putObj _ _ _
        rw [hV]
        have SV:=(HSr.out.quiet hxa).upd 1 (Ob.room [bb,bb+1,bb+2]) rfl (hxv.mono (fun i _ hi=>by simp at hi; simp [Ob.room]; omega)) (Fr.refl _ _) (fun q hq=>Nat.lt_of_lt_of_le (HSr.out.get 1 rfl q hq) (Nat.le_trans hxa.size hxv.size))
        have hbV:=hxv.keep hbx2 (by simp; omega)
        obtain⟨v,hvb,hvr,hvF,hvn⟩:=(SV.get 0 rfl:(oVar 109 110 3 cb Fv' (k+pre.length) (stksC ((K.drop (kn - pre.length)).map (fun r=>(⟨r,b3,sn+4,f3,G2⟩:Stp))++ST).reverse)).P V)
        obtain⟨svb,svc,rfl⟩:=row_slice hvr
        have hhV:V.heap[hb]? = some (.cells #[.map (some b3)] 107 (0,0)):=SV.get 8 rfl
        have k0' : V.cell? ⟨xb,0,none⟩=some (.int .i64 k0):=cellOf hbV 0
        have k1' : V.cell? ⟨xb,1,none⟩=some (.int .i64 k1):=cellOf hbV 1
        have h0' : V.cell? ⟨hb,0,none⟩=some (.map (some b3)):=cellOf hhV 0
        have a0:=cellOf hvb 0
        have f0:=freeOf hvb 0
        obtain⟨pl,hpl2⟩:∃ pl,k+pre.length=pl:=⟨_,rfl⟩
        obtain⟨PR,hPR⟩:∃ PR,stksC ((K.drop (kn - pre.length)).map (fun r=>(⟨r,b3,sn+4,f3,G2⟩:Stp))++ST).reverse=PR:=⟨_,rfl⟩
        rw [hpl2,hPR] at SV hvr
        rw [hpl2] at hvb hvF hvn a0
        have hplb:pl+1≤100100000:=by have:=HDB.out.2; omega
        have HKr:=zz7 ⟨SV,hvb,hvr,hvF,hvn,hpl2,hPR⟩
        clear SV hvb hvr hvF hvn hpl2 hPR hxa hbx2 hxv hbV hV hXW hxb hhV
        gi_wp2_with (refine wpListIn_hid (fun⟨_,_,h⟩=>h) rfl ?_)
        refine zz ?_
        go_wp2_with (first | (at_builtin; refine wpList_append_lies _ rfl _ _ 110 rfl 0 109 j0 _ 3 24 Tryz.underlying110 hjf hy0 hy1 hy2 rfl (by decide) (.slice svb pl svc) pl _ rfl (World.ownsRow.alloc HKr.out.2.2.1 _) ⟨V.heap.size,0,none⟩ 1 1 [.int .i64 k0,.int .i64 k1,.map (some b3)] rfl rfl (World.news_of_block (heap_alloc_at (w:=V) _)) (by simp [Value.oneCell']) (by decide) (by unfold maxLen; omega) (by omega) (by omega) (V.heap.size+1) (by simp) ?_; intro g6 cap2 w9 hown1 hgrow hat6 hlt6; have hb9:=grown_keep hgrow (heap_alloc_old _ HKr.out.2.1) HKr.out.2.2.2.2.1; have e9:=cellOf hb9 0; have f9:=freeOf hb9 0; have HGr:=zz3 ⟨hown1,hgrow,hat6⟩; clear hown1 hgrow hat6 hlt6 hb9 a0 f0))
        (try gi_wp2_with fail)
        obtain⟨hP1,hP2,hP3⟩:=Sep.push HKr.out.1 HKr.out.2.1 HKr.out.2.2.2.1 HKr.out.2.2.2.2.1 HGr.out.1 HGr.out.2.1 HGr.out.2.2
        obtain⟨-,-,-,-,-,hpl2,hPR⟩:=HKr.out
        have hl1:(pre++[j]).length=j+1:=by rw [List.length_append,HDB.out.2]; rfl
        have hrow:stksC ((K.drop (kn - (j+1))).map (fun r=>(⟨r,b3,sn+4,f3,G2⟩:Stp))++ST).reverse=PR++[.int .i64 k0,.int .i64 k1,.map (some b3)]:=by
         rw [HDB.out.1,List.map_cons,List.cons_append,List.reverse_cons,stksC_append,←hPR,HDB.out.2]; rfl
        refine⟨KeepsT.of_ext hP2 (fun q hq=>?_),by rw [hl1]; omega,[cb,g6],by rw [hl1,hrow,show k+(j+1)=pl+1 by have:=HDB.out.2; omega]; exact hP1⟩
        have hroom:=HKr.out.1.get 1 rfl
        have hap:=HKr.out.1.apart 0 1 _ _ rfl rfl (by omega)
        have hq2:q=bb∨q=bb+1∨q=bb+2∨q=g0:=by simp at hq; omega
        have hrm:∀ q,q=bb∨q=bb+1∨q=bb+2→q<V.heap.size∧q∉Fv':=fun q hq=>⟨hroom q (by simp; exact hq),fun h=>hap q h (by simp [Ob.room]; exact hq)⟩
        rcases hq2 with rfl | rfl | rfl | rfl
        ·exact hrm _ (.inl rfl)
        ·exact hrm _ (.inr (.inl rfl))
        ·exact hrm _ (.inr (.inr rfl))
        ·have hk1:=HG.out.2.2.2.2.2.1 (by omega)
         exact⟨(oSl 24 2 (.slice kb kn kc) kn (rfC K)).lt (HKr.out.1.get 2 rfl) _ hk1,fun h=>HKr.out.1.apart 0 2 _ _ rfl rfl (by omega) _ h hk1⟩
       case done=>
        rintro W ⟨-,Fv',S⟩ hD
        rw [List.length_range,Nat.sub_self,List.drop_zero] at S
        obtain⟨ST2,hST2⟩:∃ l,K.map (fun r=>(⟨r,b3,sn+4,f3,G2⟩:Stp))++ST=l:=⟨_,rfl⟩
        obtain⟨k2,hk2⟩:∃ k2,k+kn=k2:=⟨_,rfl⟩
        rw [hST2,hk2] at S
        obtain⟨v,hvb,hvr,hvF,hvn⟩:=(S.get 0 rfl:(oVar 109 110 3 cb Fv' k2 (stksC ST2.reverse)).P W)
        obtain⟨svb,svc,rfl⟩:=row_slice hvr
        have hnd2:((bb+1)::Ds).Nodup:=List.nodup_cons.2 ⟨S.apart 1 7 _ _ rfl rfl (by omega) (bb+1) (by simp [Ob.room]),HND.out⟩
        have hmk:∀ D∈Ds,W.heap[D]? = some (.deferred (some [])):=S.get 7 rfl
        have S1:Sep w W [Ob.room [bb,bb+1,bb+2],oVar 109 110 3 cb Fv' k2 (stksC ST2.reverse),oSl 35 5 u6 out.length (omsC out),oAny F4 (fun W=>StQ L ST out W∧HdAt W b3 (sn+4) f3 G2),Mp.oMp Tryz.prog 24 mkR (p5+1) (seen++[(s0,s1)]).length (setF (seen++[(s0,s1)])),Ob.one gb (.cells #[.slice vb vn vc,.int .i64 m0,.int .i64 m1,.map (some mb)] 62 (0,0)),oMarks Ds]:=sep_pick [1,0,3,4,5,6,7] S (by decide) rfl
        have S2:=Tr.Sep.glue (j:=5) S1 rfl (oMarks ((bb+1)::Ds)) (fun q hq=>by
         rcases List.mem_cons.1 hq with rfl | hq
         ·exact .inl (by simp [Ob.room])
         ·exact .inr hq) (fun D hD2=>by
         rcases List.mem_cons.1 hD2 with rfl | hD2
         ·exact hD
         ·exact hmk D hD2)
        have Sz:=S2.upd 2 (oAny F4 (StQ L ST2 out)) rfl (Ext.refl _ _) (Fr.refl _ _) (oAny.imp (S2.get 2 rfl) (fun W' hW=>⟨fun s hs=>by
         rw [←hST2] at hs
         rcases List.mem_append.1 hs with hs | hs
         ·obtain⟨r,-,rfl⟩:=List.mem_map.1 hs
          exact hW.2
         ·exact hW.1.1 s hs,hW.1.2⟩))
        have hsl:=H18.out.2.2
        have hcz:=hvb
        have hwR:=HK2.out
        have hml:mdl ST2=(K.map fun k=>(k,G2))++mdl ST:=by rw [←hST2]; simp [mdl,Function.comp_def]
        rw [←hml] at hwR
        have hlen2:ST2.length=k2:=by rw [←hST2,List.length_append,List.length_map,HKK.out,HR.out.2.2.2.2.2]; omega
        have hZ:=(⟨hwR,by have h1:=HN.out.2.2.2; have h2:=HR.out.2.1; have h3:=HK.out.2.2.2; have h4:=HKK.out; rw [h3,h4] at h1; omega,HN.out.2.1,fun s hs=>by
         rw [←hST2] at hs
         rw [hsl]
         rcases List.mem_append.1 hs with hs | hs
         ·obtain⟨r,hr,rfl⟩:=List.mem_map.1 hs
          have:=(HR.out.2.2.2.1 ⟨(s0,s1),sbk,sn,sf,sG⟩ (List.mem_cons_self ..)).2
          exact⟨HK.out.1 r hr,by show sn+4≤_; have:sn≤4*seen.length:=this; omega⟩
         ·have:=HR.out.2.2.2.1 s (List.mem_cons_of_mem _ hs)
          exact⟨this.1,by omega⟩,by rw [hsl]; have:=HR.out.2.2.2.2.1; omega⟩:walkF L g (mdl ST2) (seen++[(s0,s1)]) (out.map bare)=R∧k2+potN L (seen++[(s0,s1)])≤g∧QOk L (seen++[(s0,s1)])∧(∀ s∈ST2,RfWf s.r∧s.n≤4*(seen++[(s0,s1)]).length)∧out.length≤(seen++[(s0,s1)]).length)
        clear S S1 S2 hvb hvr hvF hvn hmk hD hsl hwR hml hST2 hk2
        have HND2:=zz hnd2
        clear hnd2
        go_upto_region 25 with fail
        have a0:W.cell? ⟨cb,0,none⟩=some (.slice svb k2 svc):=cellOf hcz 0
        have Sc:=(Sep.unvar Sz hcz).var (T:=110) ((Ext.refl [] W).alloc (.cells #[.slice svb k2 svc] 110)) (heap_alloc_at _) (Nat.le_refl _)
        have HZ:=zz3 ⟨Sc,hZ,hlen2⟩
        clear Sc Sz hcz hZ hlen2
        go_wp2_with fail
        refine Handed.intro g ?measure ?_
        rotate_left
        go_step
        case measure=>omega
        exact⟨_,(bb+1)::Ds,rfl,rfl,rfl,rfl,HND2.out,ST2,seen++[(s0,s1)],out,F4,_,W.heap.size,_,rfl,rfl,by rw [HZ.out.2.2]; exact HZ.out.1,HZ.out.2.1.1,by rw [HZ.out.2.2]; exact HZ.out.2.1.2.1,HZ.out.2.1.2.2.1,HZ.out.2.1.2.2.2.1,HZ.out.2.1.2.2.2.2,by omega⟩
end Pg
end Go.Proofs.YtljachhmdogkdaaGreatDoor
