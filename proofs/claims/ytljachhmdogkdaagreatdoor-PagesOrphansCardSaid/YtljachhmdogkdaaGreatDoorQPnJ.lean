/-
 Texts PnJ, as far as the statement needs them.
-/
import Derived.Test.YtljachhmdogkdaaGreatDoorQTa
import Derived.Test.YtljachhmdogkdaaGreatDoorQPp
import Derived.Test.YtljachhmdogkdaaGreatDoorQPm
import Derived.Test.YtljachhmdogkdaaGreatDoorQPo
import Derived.Test.YtljachhmdogkdaaGreatDoorQPi
set_option maxRecDepth 100000
set_option maxHeartbeats 64000000
namespace Go.Proofs.YtljachhmdogkdaaGreatDoor
namespace Pg
open Go.RowKit
open Tr
open Rc
theorem light_lt {l:List Nd} (h:lightL l 60=true):Lt l:=by
 unfold lightL at h
 rw [Bool.and_eq_true,List.all_eq_true,decide_eq_true_eq] at h
 refine⟨by omega,fun x hx=>?_⟩
 have h1:=h.1 x hx
 rw [decide_eq_true_eq] at h1
 omega
theorem light_refs (root:Rf):∀ L:List Om,(∀ x∈L,lightL x.tree 60=true)→(refsL root L).length≤L.length*60+1
 | [],_=>by simp [refsL]
 | x::L,h=>by
  have ih:=light_refs root L (fun y hy=>h y (List.mem_cons_of_mem _ hy))
  have hx:=h x (List.mem_cons_self ..)
  unfold lightL at hx
  rw [Bool.and_eq_true,decide_eq_true_eq] at hx
  have hr:(refsN x.tree).length≤x.tree.length:=by
   unfold refsN
   split
   ·rw [List.length_map]; exact List.length_filter_le _ _
   ·exact Nat.zero_le _
  unfold refsL at ih ⊢
  rw [List.length_cons,List.flatMap_cons,List.length_append,List.length_cons]
  rw [List.length_cons] at ih
  unfold refsOf at ih ⊢
  omega
theorem check_strict {root:Rf} {L:List Om} (h:checkP root L=0):strictN L=0:=by
 unfold checkP at h
 split at h
 ·cases h
 ·rename_i h1; exact Decidable.byContradiction fun h2=>h1 h2
theorem check_root {root:Rf} {L:List Om} (h:checkP root L=0):∃ x,findO L root=some x:=by
 have hs:=check_strict h
 unfold checkP at h
 rw [if_neg (by rw [hs]; simp)] at h
 unfold treeP at h
 cases hf:findO L root with
 | none=>rw [hf] at h; cases h
 | some x=>exact⟨x,rfl⟩
theorem check_most {root:Rf} {L:List Om} (h:checkP root L=0):mostN root L≤8388607:=by
 have hp:∀ x∈L,RefIn (refO x)∧checkN x.tree=0:=fun x hx=>by
  have hs:=check_strict h
  unfold strictN at hs
  split at hs
  ·rename_i h1; exact put_facts (strictF_put L none h1 x hx)
  ·cases hs
 have hn:∀ x∈L,x.num≤8388607:=fun x hx=>(hp x hx).1.1.2
 unfold mostN
 obtain⟨-,-,a3⟩:=max_spec (L.map (·.num)) (maxN ((refsL root L).map (·.1)) 0)
 obtain⟨-,-,b3⟩:=max_spec ((refsL root L).map (·.1)) 0
 have hb:maxN ((refsL root L).map (·.1)) 0≤8388607:=by
  rcases b3 with b3 | b3
  ·omega
  ·obtain⟨r,hr,he⟩:=List.mem_map.1 b3
   rw [←he]
   rcases List.mem_cons.1 hr with rfl | hr
   ·obtain⟨x,hx⟩:=check_root h
    have h1:=findO_mem hx
    rw [h1.2]
    exact hn x h1.1
   ·obtain⟨x,hx,hr⟩:=List.mem_flatMap.1 hr
    have:=refs_ok (show r∈refsN x.tree from hr)
    omega
 rcases a3 with a3 | a3
 ·omega
 ·obtain⟨x,hx,he⟩:=List.mem_map.1 a3
  rw [←he]
  exact hn x hx
theorem row_ord {w:World} {g:Nat} {N:Int} (t:Bool) {f:Nat×Nat} {ty:TypeId} (h:w.heap[g]? = some (.cells (if t=true then #[.int .i64 (N+1),.int .i64 0,.int .i64 N,.int .i64 0] else #[.int .i64 N,.int .i64 0,.int .i64 (N+1),.int .i64 0]) ty f)):RowAt w (.slice (some ⟨g,0,none⟩) 2 2) (ordL N t):=by
 cases t with
 | true=>exact row_lit (ordL N true) h rfl
 | false=>exact row_lit (ordL N false) h rfl
theorem ord_wf {N:Int} (h1:1≤N) (h2:N≤131072) (t:Bool):∀ r∈ordL N t,RfWf r:=fun r hr=>by
 rcases ord_mem hr with rfl | rfl
 ·exact⟨⟨by show -9223372036854775808≤N; omega,by show N≤9223372036854775807; omega⟩,by show (-9223372036854775808:Int)≤0; omega,by show (0:Int)≤9223372036854775807; omega⟩
 ·exact⟨⟨by show -9223372036854775808≤N+1; omega,by show N+1≤9223372036854775807; omega⟩,by show (-9223372036854775808:Int)≤0; omega,by show (0:Int)≤9223372036854775807; omega⟩
theorem ord_len (N:Int) (t:Bool):(ordL N t).length=2:=by cases t <;> rfl
theorem pg_dict:(dictionN [kType] [[nameNd kPage]]).1=pgT:=rfl
theorem pg_dict2:(dictionN [kType] [[nameNd kPage]]).2=0:=by kernel_rfl
theorem orphans28_law (v:Value) (turned:Bool) (w:World) (hv:GraphArg w v) :
  Calls Tryz.prog 4 #[v,.bool turned] w fun e w'=>e=.returned (.bool true)∧Ext [] w w':=by
 obtain⟨sl,L,m0,m1,rfl,hO,hl,hA,hr⟩:=hv
 have HLG:=zz (fun W (hx:Ext [] w W)=>lightG_walk sl L (m0,m1) W (hO.ext hx) (fun x hx=>(hA x hx).len) hl)
 have HG:=zz3 ⟨hO,hA,hr⟩
 obtain⟨gb,gn,gc,rfl⟩:∃ b n c,sl=.slice b n c:=by
  obtain⟨b,c,h,-⟩:=hO
  exact⟨b,_,c,h⟩
 clear hO hl hA hr
 go_enter Tryz.func4,Tryz.ntmps4
 go_upto_region 1 with fail
 refine gen_world (fun W0 hW=>?_)
 obtain⟨p2,hp⟩:∃ p,w.heap.size=p:=⟨_,rfl⟩
 (try rw [hp])
 have hx:Ext [] w W0:=by rw [←hW]; exact (Ext.refl [] w).alloc _
 have hb:W0.heap[p2]? = some (.cells #[.slice gb gn gc,.int .i64 m0,.int .i64 m1] 26 (0,0)):=by rw [←hW,←hp]; exact heap_alloc_at _
 have H0:=zz2 ⟨hx,hb⟩
 clear hW hp hx hb
 go_wp2_with fail
 refine (lives_walk28 _).mono ?_
 rintro e w1 ⟨rfl,hx⟩
 have H1:=zz2 ⟨H0.out.1.trans hx,hx.keep H0.out.2 (by simp)⟩
 clear hx H0
 have c0:=cellOf H1.out.2 0
 have c1:=cellOf H1.out.2 1
 have c2:=cellOf H1.out.2 2
 go_wp2_with fail
 refine (HLG.out _ H1.out.1).mono ?_
 rintro e w2 ⟨bl,rfl,hx,hbl⟩
 have H2:=zz2 ⟨H1.out.1.trans hx,hx.keep H1.out.2 (by simp)⟩
 clear hx H1 c0 c1 c2 HLG
 cases bl with
 | false=>
  clear hbl
  go_wp2_with fail
  go_ret
  exact⟨rfl,H2.out.1⟩
 | true=>
 obtain⟨hlight,hlen⟩:=hbl rfl
 have hwf:∀ x∈L,OmWf x:=fun x hx=>⟨(HG.out.2.1 x hx).num,(HG.out.2.1 x hx).gen,light_lt (hlight x hx)⟩
 have hC9:∀ x∈L,cntE x.tree≤900:=fun x hx=>Nat.le_trans (light_cnt (hlight x hx)) (by omega)
 have hK:(refsL (m0,m1) L).length≤1048576:=by have:=light_refs (m0,m1) L hlight; omega
 have HC:=zz (fun W (hx:Ext [] w W)=>check28_walk (.slice gb gn gc) L (m0,m1) W (HG.out.1.ext hx) hwf HG.out.2.2 (by omega))
 have HOr:=zz (fun W (hx:Ext [] w W)=>Orphans_walk (.slice gb gn gc) L (m0,m1) (.slice none 0 0) [] W (HG.out.1.ext hx) hwf HG.out.2.2 hC9 (by omega) (row_nil W) (fun r hr=>by cases hr) (by show 0≤1000; omega))
 have HAb:=zz (fun (hm:checkP (m0,m1) L=0) W (hx:Ext [] w W)=>above27_walk (.slice gb gn gc) L (m0,m1) W (HG.out.1.ext hx) hwf (by omega) hK (by have:=check_most hm; omega))
 have HL:=zz (fun W (hx:Ext [] w W)=>list_walk (.slice gb gn gc) L (m0,m1) W (HG.out.1.ext hx) hwf HG.out.2.2 hC9 (by omega))
 have HF:=zz4 ⟨hwf,hlight,hlen,hC9⟩
 clear hbl hlight hlen hwf hC9 hK
 have c0:=cellOf H2.out.2 0
 have c1:=cellOf H2.out.2 1
 have c2:=cellOf H2.out.2 2
 go_wp2_with fail
 refine (HC.out _ H2.out.1).mono ?_
 rintro e w3 ⟨rfl,hx⟩
 have H3:=zz2 ⟨H2.out.1.trans hx,hx.keep H2.out.2 (by simp)⟩
 clear hx H2 c0 c1 c2 HC
 obtain⟨ck,hck⟩:∃ k,checkP (m0,m1) L=k:=⟨_,rfl⟩
 rw [hck] at HAb ⊢
 have c0:=cellOf H3.out.2 0
 have c1:=cellOf H3.out.2 1
 have c2:=cellOf H3.out.2 2
 by_cases hck0:ck=0
 case neg=>
  have hb0:(ck != 0)=true:=bne_iff_ne.2 hck0
  go_wp2_with fail
  go_ret
  exact⟨rfl,H3.out.1⟩
 case pos=>
 subst hck0
 have HCk:=zz hck
 clear hck
 go_wp2_with fail
 refine (HOr.out _ H3.out.1).mono ?_
 rintro e w4 ⟨v4,rfl,S4⟩
 obtain⟨lk,hlk⟩:∃ k,(loneM (m0,m1) L []).length=k:=⟨_,rfl⟩
 rw [hlk] at S4
 obtain⟨rb4,rc4,rfl⟩:=row_slice (S4.get 0 rfl:w4.ownsRow 0 24 2 v4 lk (rfC (loneM (m0,m1) L [])))
 have H4:=zz3 ⟨H3.out.1.trans S4.ext,S4.ext.keep H3.out.2 (by simp),hlk⟩
 clear S4 H3 c0 c1 c2 HOr hlk
 have c0:=cellOf H4.out.2.1 0
 have c1:=cellOf H4.out.2.1 1
 have c2:=cellOf H4.out.2.1 2
 by_cases hlk0:(0:Int)<(lk:Int)
 case pos=>
  go_wp2_with fail
  go_ret
  exact⟨rfl,H4.out.1⟩
 case neg=>
 go_wp2_with fail
 refine (HAb.out trivial _ H4.out.1).mono ?_
 rintro e w5 ⟨rfl,hx⟩
 have H5:=zz3 ⟨H4.out.1.trans hx,hx.keep H4.out.2.1 (by simp),H4.out.2.2⟩
 clear hx H4 c0 c1 c2
 obtain⟨N,hN⟩:∃ N,mostN (m0,m1) L+1=N:=⟨_,rfl⟩
 rw [hN] at HAb ⊢
 have c0:=cellOf H5.out.2.1 0
 have c1:=cellOf H5.out.2.1 1
 have c2:=cellOf H5.out.2.1 2
 by_cases hN2:(131072:Int)<N
 case pos=>
  go_wp2_with fail
  go_ret
  exact⟨rfl,H5.out.1⟩
 case neg=>
 have hGr:GrOk (m0,m1) L N:=⟨HF.out.1,HF.out.2.1,HF.out.2.2.1,HCk.out,List.eq_nil_of_length_eq_zero (by have:=H5.out.2.2; omega),hN.symm,by omega⟩
 have hN1:1≤N:=hGr.nums.2.2.2
 have HGr:=zz2 ⟨hGr,hGr.nums⟩
 clear hGr hN hlk0
 have hN3:N≤131072:=by omega
 clear hN2
 go_wp2_with fail
 refine (HAb.out trivial _ H5.out.1).mono ?_
 rintro e w6 ⟨rfl,hx⟩
 have H6:=zz2 ⟨H5.out.1.trans hx,hx.keep H5.out.2.1 (by simp)⟩
 clear hx H5 c0 c1 c2 HAb HCk HF
 go_wp2_with fail
 -- the page's tree
 refine gen_calls (fun W7 hW=>?_)
 have hx:Ext [] w6 W7:=by rw [←hW]; exact (Ext.refl [] w6).alloc _
 obtain⟨p7,hp⟩:∃ p,w6.heap.size=p:=⟨_,rfl⟩
 have hb:W7.heap[p7]? = some (.cells #[.string kType] 9 (0,0)):=by rw [←hW,←hp]; exact heap_alloc_at _
 rw [hp]
 have H7:=zz3 ⟨H6.out.1.trans hx,hx.keep H6.out.2 (by simp),hb⟩
 clear hx hb hW hp H6
 refine (lname_walk kPage (by decide) _).mono ?_
 rintro e w8 ⟨nb8,nc8,rfl,hx,hN8⟩
 have H8:=zz4 ⟨H7.out.1.trans hx,hx.keep H7.out.2.1 (by simp),hx.keep H7.out.2.2 (by simp),hN8⟩
 clear hx hN8 H7
 go_wp2_with fail
 refine gen_calls (fun W9 hW=>?_)
 have hx:Ext [] w8 W9:=by rw [←hW]; exact (Ext.refl [] w8).alloc _
 have hb:W9.heap[w8.heap.size]? = some (.cells #[.slice nb8 1 nc8] 31 (0,0)):=by rw [←hW]; exact heap_alloc_at _
 have hD:=dict17X_walk (.slice (some ⟨p7,0,none⟩) 1 1) (.slice (some ⟨w8.heap.size,0,none⟩) 1 1) [kType] [[nameNd kPage]] W9 (strs_lit [kType] (hx.keep H8.out.2.2.1 (by simp)) rfl) (trees_lit [(.slice nb8 1 nc8,[nameNd kPage])] hb rfl (fun p hp=>by
  obtain rfl:=List.mem_singleton.1 hp
  exact H8.out.2.2.2.ext hx)) (by decide) (by show 1≤1048576; omega) (by decide) (fun l hl=>by
  obtain rfl:=List.mem_singleton.1 hl
  have:=lt_name (s:=kPage) (by decide)
  exact⟨this.len,this.s⟩)
 rw [pg_dict,pg_dict2] at hD
 have H9:=zz2 ⟨H8.out.1.trans hx,hx.keep H8.out.2.1 (by simp)⟩
 clear hx hb hW H8
 refine hD.mono ?_
 clear hD
 rintro e w10 ⟨v10,rfl,hx,hT⟩
 obtain⟨tb,tc,rfl⟩:∃ b c,v10=.slice b 3 c:=by
  obtain⟨b,c,h,-⟩:=hT
  rw [pg_len] at h
  exact⟨b,c,h⟩
 have H10:=zz3 ⟨H9.out.1.trans hx,hx.keep H9.out.2 (by simp),hT⟩
 clear hx hT H9
 have c0:=cellOf H10.out.2.1 0
 have c1:=cellOf H10.out.2.1 1
 have c2:=cellOf H10.out.2.1 2
 go_wp2_with fail
 -- two pages more
 refine (put27_walk (.slice gb gn gc) L (m0,m1) (pgM (.slice tb 3 tc) N) _ (HG.out.1.ext H10.out.1) H10.out.2.2 HGr.out.2.1 (by have:=HGr.out.1.len; omega)).mono ?_
 rintro e w11 ⟨v11,rfl,hx,hO11⟩
 obtain⟨b11,n11,c11,rfl⟩:∃ b n c,v11=.slice b n c:=by
  obtain⟨b,c,h,-⟩:=hO11
  exact⟨b,_,c,h⟩
 have H11:=zz4 ⟨H10.out.1.trans hx,hx.keep H10.out.2.1 (by simp),H10.out.2.2.ext hx,hO11⟩
 clear hx hO11 H10 c0 c1 c2
 go_wp2_with fail
 refine (put27_walk (.slice b11 n11 c11) (L++[pgM (.slice tb 3 tc) N]) (m0,m1) (pgM (.slice tb 3 tc) (N+1)) _ H11.out.2.2.2 H11.out.2.2.1 (fun y hy=>by
  rcases List.mem_append.1 hy with hy | hy
  ·have:=HGr.out.2.1 y hy
   show y.num<N+1
   omega
  ·obtain rfl:=List.mem_singleton.1 hy
   show N<N+1
   omega) (by have:=HGr.out.1.len; rw [List.length_append,List.length_singleton]; omega)).mono ?_
 rintro e w12 ⟨v12,rfl,hx,hO12⟩
 have hO12' : OmsAt w12 v12 (moreL L (.slice tb 3 tc) N):=by
  have e:L++[pgM (.slice tb 3 tc) N]++[pgM (.slice tb 3 tc) (N+1)]=moreL L (.slice tb 3 tc) N:=by unfold moreL; simp
  rw [←e]; exact hO12
 clear hO12
 have hO12:=hO12'
 clear hO12'
 obtain⟨b12,n12,c12,rfl⟩:∃ b n c,v12=.slice b n c:=by
  obtain⟨b,c,h,-⟩:=hO12
  exact⟨b,_,c,h⟩
 have H12:=zz3 ⟨H11.out.1.trans hx,hx.keep H11.out.2.1 (by simp),hO12⟩
 clear hx hO12 H11
 go_upto_region 8 with fail
 refine gen_world (fun W13 hW=>?_)
 obtain⟨p8,hp⟩:∃ p,w12.heap.size=p:=⟨_,rfl⟩
 (try rw [hp])
 have hx:Ext [] w12 W13:=by rw [←hW]; exact (Ext.refl [] w12).alloc _
 have hb:W13.heap[p8]? = some (.cells #[.slice b12 n12 c12,.int .i64 m0,.int .i64 m1] 26 (0,0)):=by rw [←hW,←hp]; exact heap_alloc_at _
 have H13:=zz4 ⟨H12.out.1.trans hx,hx.keep H12.out.2.1 (by simp),H12.out.2.2.ext hx,hb⟩
 clear hx hb hW hp H12
 -- the order
 go_upto_region 9 with fail
 refine gen_world (fun W14 hW=>?_)
 obtain⟨p9,hp⟩:∃ p,W13.heap.size=p:=⟨_,rfl⟩
 (try rw [hp])
 have hx:Ext [] W13 W14:=by rw [←hW]; exact ((Ext.refl [] W13).alloc _).alloc _
 have hb1:W14.heap[p9]? = some (.cells #[.int .i64 N,.int .i64 0] 24 (0,0)):=by rw [←hW,←hp]; exact heap_alloc_old _ (heap_alloc_at _)
 have hb2:W14.heap[p9+1]? = some (.cells #[.int .i64 (N+1),.int .i64 0] 24 (0,0)):=by
  have:=heap_alloc_at (w:=W13.alloc (.cells #[.int .i64 N,.int .i64 0] 24)) (.cells #[.int .i64 (N+1),.int .i64 0] 24)
  rw [show (W13.alloc (.cells #[.int .i64 N,.int .i64 0] 24)).heap.size=p9+1 from by simp [hp]] at this
  rw [←hW]
  exact this
 have H14:=zz6 ⟨H13.out.1.trans hx,hx.keep H13.out.2.1 (by simp),H13.out.2.2.1.ext hx,hx.keep H13.out.2.2.2 (by simp),hb1,hb2⟩
 have a0:=cellOf hb1 0
 have a1:=cellOf hb1 1
 have b0:=cellOf hb2 0
 have b1:=cellOf hb2 1
 clear hx hb1 hb2 hW hp H13
 go_upto_region 10 with fail
 refine gen_world (fun V15 hW=>?_)
 obtain⟨q15,hp⟩:∃ p,W14.heap.size=p:=⟨_,rfl⟩
 (try rw [hp])
 have hx:Ext [] W14 V15:=by rw [←hW]; exact (Ext.refl [] W14).alloc _
 have hb:V15.heap[q15]? = some (.cells #[.int .i64 N,.int .i64 0,.int .i64 (N+1),.int .i64 0] 24 (0,0)):=by rw [←hW,←hp]; exact heap_alloc_at _
 have H14:=zz7 ⟨H14.out.1.trans hx,hx.keep H14.out.2.1 (by simp),H14.out.2.2.1.ext hx,hx.keep H14.out.2.2.2.1 (by simp),hx.keep H14.out.2.2.2.2.1 (by simp),hx.keep H14.out.2.2.2.2.2 (by simp),hb⟩
 clear hx hb hW hp a0 a1 b0 b1
 have a0:=cellOf H14.out.2.2.2.2.1 0
 have a1:=cellOf H14.out.2.2.2.2.1 1
 have b0:=cellOf H14.out.2.2.2.2.2.1 0
 have b1:=cellOf H14.out.2.2.2.2.2.1 1
 obtain⟨tt,htt⟩:∃ tt:Bool,tt=turned:=⟨_,rfl⟩
 cases turned
 case' false=>
  go_upto_region 12 with fail
  refine gen_world (fun W15 hW=>?_)
  have hx:Ext [] V15 W15:=by rw [←hW]; exact Ext.refl [] V15
  have hrow:RowAt W15 (.slice (some ⟨q15,0,none⟩) 2 2) (ordL N tt):=row_ord tt (by rw [←hW,htt]; exact H14.out.2.2.2.2.2.2)
  revert hrow
  generalize q15=p15
  intro hrow
 case' true=>
  go_upto_region 12 with fail
  refine gen_world (fun W15 hW=>?_)
  have hx:Ext [] V15 W15:=by rw [←hW]; exact (Ext.refl [] V15).alloc _
  have hrow:RowAt W15 (.slice (some ⟨V15.heap.size,0,none⟩) 2 2) (ordL N tt):=row_ord tt (by
   rw [←hW,htt]
   exact heap_alloc_at _)
  revert hrow
  generalize V15.heap.size=p15
  intro hrow
 all_goals (
  have H15:=zz5 ⟨H14.out.1.trans hx,hx.keep H14.out.2.1 (by simp),H14.out.2.2.1.ext hx,hx.keep H14.out.2.2.2.1 (by simp),hrow⟩
  clear hx hrow hW H14 htt a0 a1 b0 b1
  have c0:=cellOf H15.out.2.2.2.1 0
  have c1:=cellOf H15.out.2.2.2.1 1
  have c2:=cellOf H15.out.2.2.2.1 2
  obtain⟨q1,q2,q3⟩:=HGr.out.1.asks (.slice tb 3 tc)
  have HM:=zz (mend_walk (.slice b12 n12 c12) (moreL L (.slice tb 3 tc) N) (m0,m1) (.slice (some ⟨p15,0,none⟩) 2 2) (ordL N tt) W15 H15.out.2.2.1 q1 HG.out.2.2 (fun x hx=>Nat.le_trans (q2 x hx) (by omega)) (by omega) H15.out.2.2.2.2 (ord_wf hN1 hN3 tt) (by rw [ord_len]; omega) (by rw [most_more HGr.out.1.num]; omega))
  clear q1 q2 q3
  go_wp2_with fail
  refine HM.out.mono ?_
  clear HM
  rintro e w16 ⟨v16,r0,r1,nv,ML,NT,F,rfl,hM,FN,S⟩
  obtain⟨hroot,hkeys,rfl,hml,hmlen⟩:=HGr.out.1.mend hM
  obtain⟨rfl,rfl⟩:=Prod.mk.inj hroot
  have hO16:OmsAt w16 v16 ML:=oAny.now (S.get 1 rfl) (H15.out.2.2.1.ext S.ext)
  have hR16:RowAt w16 nv [(3,N+2),(4,N+2),(5,N),(5,N+1)]:=oAny.now (S.get 0 rfl)
  obtain⟨b16,n16,c16,rfl⟩:∃ b n c,v16=.slice b n c:=by
   obtain⟨b,c,h,-⟩:=hO16
   exact⟨b,_,c,h⟩
  obtain⟨nb,nc,rfl⟩:∃ b c,nv=.slice b 4 c:=by
   obtain⟨b,c,h,-⟩:=hR16
   exact⟨b,c,h⟩
  have H16:=zz5 ⟨H15.out.1.trans S.ext,S.ext.keep H15.out.2.1 (by simp),hO16,H15.out.2.2.2.2.ext S.ext,hR16⟩
  have HML:=zz3 ⟨hkeys,hml,hmlen⟩
  clear S hO16 hR16 hM hroot hkeys hml hmlen H15 c0 c1 c2
  go_upto_region 13 with fail
  refine gen_world (fun W17 hW=>?_)
  obtain⟨p12,hp⟩:∃ p,w16.heap.size=p:=⟨_,rfl⟩
  (try rw [hp])
  have hx:Ext [] w16 W17:=by rw [←hW]; exact (Ext.refl [] w16).alloc _
  have hb:W17.heap[p12]? = some (.cells #[.slice b16 n16 c16,.int .i64 r0,.int .i64 r1] 26 (0,0)):=by rw [←hW,←hp]; exact heap_alloc_at _
  have hbg:=hx.keep H16.out.2.1 (by simp)
  have H17:=zz4 ⟨H16.out.1.trans hx,H16.out.2.2.1.ext hx,H16.out.2.2.2.1.ext hx,H16.out.2.2.2.2.ext hx⟩
  have k0:=fun y:Ex W17=>y.cell (cellOf hb 0)
  have k1:=fun y:Ex W17=>y.cell (cellOf hb 1)
  have k2:=fun y:Ex W17=>y.cell (cellOf hb 2)
  have g0:=fun y:Ex W17=>y.cell (cellOf hbg 0)
  have g1:=fun y:Ex W17=>y.cell (cellOf hbg 1)
  have g2:=fun y:Ex W17=>y.cell (cellOf hbg 2)
  clear hx hb hbg hW hp H16
  refine wp_region_perm (C:=fun w'=>∃ y:Ex W17,w' = y.w) [0,2,4] 21 (by kernel_rfl) (by kernel_rfl) ⟨Ex.mk _ ((Ext.refl [] W17).drew),rfl⟩ ?_
  simp only [pick,List.getElem?_toArray,List.getElem?_cons_zero,List.getElem?_cons_succ,List.drop_succ_cons,List.drop_zero]
  repeat (go_big_quiet_step (fail))
  refine wpQuiet_nil ?_
  clear k0 k1 k2 g0 g1 g2
  have hxd:=(Ext.refl [] W17).drew
  refine anyC_one (f:=17) (i:=1) (by kernel_rfl) (by decide) rfl rfl (fun K9 hK9=>?_)
  go_wp2_with fail
  refine (list_walk (.slice b16 n16 c16) ML (r0,r1) _ (H17.out.2.1.ext hxd) (fun x hx=>(HML.out.2.1 x hx).1) HG.out.2.2 (fun x hx=>(HML.out.2.1 x hx).2) HML.out.2.2).mono ?_
  rintro e w18 ⟨v18,rfl,S18⟩
  have hR18:=RowAt.of_row (S18.get 0 rfl:w18.ownsRow 0 24 2 v18 (keysO (walkN (r0,r1) ML)).length (rfC (keysO (walkN (r0,r1) ML))))
  rw [HML.out.1] at hR18
  have hx:=hxd.trans S18.ext
  have H18:=zz5 ⟨H17.out.1.trans hx,hx,hR18,H17.out.2.2.1.ext hx,H17.out.2.2.2.ext hx⟩
  clear S18 hR18 hx hxd H17 HML
  go_wp2_with fail
  refine hK9 _ _ ⟨Ex.mk _ H18.out.2.1,rfl⟩ ?_
  clear hK9 K9
  refine anyC_one (f:=16) (i:=3) (by kernel_rfl) (by decide) rfl rfl (fun K9 hK9=>?_)
  go_wp2_with fail
  refine (HL.out _ H18.out.1).mono ?_
  rintro e w19 ⟨v19,rfl,S19⟩
  have hal:=qok_len (walkN_ok (r0,r1) L)
  have hLl:=HGr.out.1.len
  obtain⟨A,hAe⟩:∃ A,keysO (walkN (r0,r1) L)=A:=⟨_,rfl⟩
  rw [hAe] at S19 hal H18
  obtain⟨ab,ac,rfl⟩:=row_slice (S19.get 0 rfl:w19.ownsRow 0 24 2 v19 A.length (rfC A))
  obtain⟨ao2,cap2,w20,hrun,ho,hxa,hf⟩:=app_refs (S19.get 0 rfl:w19.ownsRow 0 24 2 (.slice ab A.length ac) A.length (rfC A)) (H18.out.2.2.2.1.ext S19.ext) (by rw [ord_len]; omega)
  have S20:Sep w18 w20 [oSl 24 2 (.slice ao2 (A++ordL N tt).length cap2) (A++ordL N tt).length (rfC (A++ordL N tt))]:=S19.upd 0 (oSl 24 2 (.slice ao2 (A++ordL N tt).length cap2) (A++ordL N tt).length (rfC (A++ordL N tt))) rfl hxa hf ho
  have H20:=zz6 ⟨H18.out.1.trans S20.ext,H18.out.2.1.trans S20.ext,H18.out.2.2.1.ext S20.ext,RowAt.of_row ho,H18.out.2.2.2.2.ext S20.ext,hrun⟩
  have hxw:=H18.out.2.1.trans S19.ext
  have hall:(A++ordL N tt).length≤9223372036854775807:=by rw [List.length_append,ord_len]; omega
  obtain⟨Z,hZ⟩:∃ Z,A++ordL N tt=Z:=⟨_,rfl⟩
  rw [hZ] at H20 hall
  obtain⟨zl,hzl⟩:∃ k,Z.length=k:=⟨_,rfl⟩
  rw [hzl] at H20
  obtain⟨al,hal2⟩:∃ k,A.length=k:=⟨_,rfl⟩
  rw [hal2] at H20 ⊢
  have HZ:=zz hall
  clear S20 S19 hrun ho hxa hf hal hLl hAe H18 HL hall hZ hzl hal2
  go_wp2_with fail
  refine hK9 _ _ ⟨Ex.mk _ hxw,rfl⟩ ?_
  clear hK9 K9 hxw
  refine anyC_one (f:=15) (i:=5) (by kernel_rfl) (by decide) rfl rfl (fun K9 hK9=>?_)
  refine wp_append_run _ _ _ _ rfl rfl rfl (H20.out.2.2.2.2.2 _) ?_
  refine hK9 _ _ ⟨Ex.mk _ H20.out.2.1,rfl⟩ ?_
  clear hK9 K9
  refine anyC_one (f:=14) (i:=6) (by kernel_rfl) (by decide) rfl rfl (fun K9 hK9=>?_)
  go_wp2_with fail
  refine (sameR28_walk _ _ Z _ H20.out.2.2.1 H20.out.2.2.2.1 HZ.out).mono ?_
  rintro e w21 ⟨rfl,hx⟩
  have H21:=zz3 ⟨H20.out.1.trans hx,H20.out.2.1.trans hx,H20.out.2.2.2.2.1.ext hx⟩
  clear hx H20 HZ
  go_wp2_with fail
  refine hK9 _ _ ⟨Ex.mk _ H21.out.2.1,rfl⟩ ?_
  clear hK9 K9
  refine anyC_more [7,8,9,10,11,12,13,14,15,16,17,18,19] 1 (by kernel_rfl) ⟨Ex.mk _ H21.out.2.1,rfl⟩ ?_
  simp only [pick,List.getElem?_toArray,List.getElem?_cons_zero,List.getElem?_cons_succ]
  repeat (go_big_quiet_step (fail))
  refine wpQuiet_nil ?_
  refine anyC_oneG (f:=0) (i:=20) (by kernel_rfl) (by decide) rfl rfl (fun K9 hK9=>?_)
  go_wp2_with fail
  have hx:Ext [] w21 (w21.alloc (.cells #[.int .i64 3,.int .i64 (N+2),.int .i64 4,.int .i64 (N+2),.int .i64 5,.int .i64 N,.int .i64 5,.int .i64 (N+1)] 47)):=(Ext.refl [] w21).alloc _
  have hrl:=row_lit [(3,N+2),(4,N+2),(5,N),(5,N+1)] (heap_alloc_at (w:=w21) (.cells #[.int .i64 3,.int .i64 (N+2),.int .i64 4,.int .i64 (N+2),.int .i64 5,.int .i64 N,.int .i64 5,.int .i64 (N+1)] 47)) rfl
  refine hK9 _ _ ⟨Ex.mk _ (H21.out.2.1.trans hx),rfl⟩ ?_
  clear hK9 K9
  refine⟨by kernel_rfl,?_⟩
  have H22:=zz3 ⟨H21.out.1.trans hx,H21.out.2.2.ext hx,hrl⟩
  clear hx hrl H21
  go_wp2_with fail
  refine (sameN28_walk _ _ [(3,N+2),(4,N+2),(5,N),(5,N+1)] _ H22.out.2.1 H22.out.2.2 (by show 4≤9223372036854775807; omega)).mono ?_
  rintro e w23 ⟨rfl,hx⟩
  have H23:=zz (H22.out.1.trans hx)
  clear hx H22
  go_wp2_with fail
  refine NoPanic.normal ?_
  go_wp2_with fail
  go_ret
  exact⟨rfl,H23.out⟩)
end Pg
open Go.RowKit
theorem Ext.below {w w' : World} (h:Ext [] w w'):Below w.heap.size w w':=⟨h.os,h.tape,h.output,h.size,fun k hk=>h.block k hk (by simp)⟩
end Go.Proofs.YtljachhmdogkdaaGreatDoor
