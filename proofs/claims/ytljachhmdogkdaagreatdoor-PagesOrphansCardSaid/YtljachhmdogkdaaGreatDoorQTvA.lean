/-
 Texts TvA, as far as the statement needs them.
-/
import Derived.Test.YtljachhmdogkdaaGreatDoorQTa
set_option maxRecDepth 100000
set_option maxHeartbeats 64000000
namespace Go.Proofs.YtljachhmdogkdaaGreatDoor
namespace Tr
open Go.RowKit
theorem ownsRow_same {w w' : World} {e:TypeId} {k n:Nat} {v:Value} {xs:List Value} (h:w.ownsRow 0 e k v n xs) (hS:∀ g,v.ownBlock=some g→w'.heap[g]? = w.heap[g]?):w'.ownsRow 0 e k v n xs:=by
 refine⟨h.1,?_⟩
 rcases h.2 with hn | ⟨g,cap,cur,rfl,hb,hgg,rest⟩
 ·exact .inl hn
 ·exact .inr ⟨g,cap,cur,rfl,hb,(hS g rfl).trans hgg,rest⟩
def oTr (F:List Nat) (v:Value) (l:List Nd):Ob where
 F:=F
 P:=fun w=>(∀ k∈F,k<w.heap.size)∧∀ w' : World,(∀ k∈F,w'.heap[k]? = w.heap[k]?)→NodesAt w' v l
 ok:=fun h hx hS=>⟨fun k hk=>Nat.lt_of_lt_of_le (h.1 k hk) hx.size,fun w2 h2=>h.2 w2 (fun k hk=>(h2 k hk).trans (hx.block k (h.1 k hk) (hS k hk)))⟩
 lt:=fun h=>h.1
theorem oTr.nodes {F:List Nat} {v:Value} {l:List Nd} {w:World} (h:(oTr F v l).P w):NodesAt w v l:=h.2 w (fun _ _=>rfl)
theorem nodes_nil (w:World):NodesAt w (.slice none 0 0) []:=⟨none,0,rfl,by simp,fun k hk=>by cases hk⟩
theorem tr_nil {w w' : World} (h:Ext [] w w'):Sep w w' [oTr [] (.slice none 0 0) []]:=
 ((Sep.start w).quiet h).new (Ext.refl _ _) (oTr [] (.slice none 0 0) []) ⟨fun k hk=>(by cases hk),fun w2 _=>nodes_nil w2⟩ (fun k hk=>by cases hk)
theorem bd_tree {w0 w:World} {b:Nat} {v:Value} {Z:List Zd} (S:Sep w0 w [oBd b v Z]):Sep w0 w [oTr (bdF b v Z) v (Z.map (·.1))]:=by
 have hP:BdP w b v Z:=S.get 0 rfl
 refine⟨S.ext,fun o ho=>?_,fun o ho=>?_,fun i j a c hi hj hij=>?_⟩
 ·obtain rfl:=List.mem_singleton.1 ho
  refine⟨(oBd b v Z).lt hP,fun w2 h2=>?_⟩
  exact BdP.nodes (Z:=Z) (b:=b) ⟨(h2 b (by simp [bdF])).trans hP.here,ownsRow_same hP.row (fun g hg=>h2 g (by simp [bdF,hg])),fun p hp=>ownsRow_same (hP.kids p hp) (fun g hg=>h2 g (by unfold bdF; exact List.mem_cons_of_mem _ (List.mem_append_right _ (mem_kidF hp hg)))),hP.dup,hP.wf⟩
 ·obtain rfl:=List.mem_singleton.1 ho
  exact S.base (oBd b v Z) (by simp)
 ·exfalso
  have h1:=(List.getElem?_eq_some_iff.1 hi).1
  have h2:=(List.getElem?_eq_some_iff.1 hj).1
  simp at h1 h2
  omega
theorem sep_cat {w0 w w' : World} {L M:List Ob} (h:Sep w0 w L) (k:Sep w w' M):Sep w0 w' (M++L):=by
 have hlt:∀ o∈L,∀ q∈o.F,q<w.heap.size:=fun o ho=>o.lt (h.each o ho)
 refine⟨h.ext.trans k.ext,fun o ho=>?_,fun o ho q hq=>?_,fun i j a b hi hj hij q hq hq2=>?_⟩
 ·rcases List.mem_append.1 ho with ho | ho
  ·exact k.each o ho
  ·exact (h.quiet k.ext).each o ho
 ·rcases List.mem_append.1 ho with ho | ho
  ·exact Nat.le_trans h.ext.size (k.base o ho q hq)
  ·exact h.base o ho q hq
 ·by_cases hi2:i<M.length
  ·rw [List.getElem?_append_left hi2] at hi
   by_cases hj2:j<M.length
   ·rw [List.getElem?_append_left hj2] at hj
    exact k.apart i j a b hi hj hij q hq hq2
   ·rw [List.getElem?_append_right (by omega)] at hj
    have h1:=k.base a (List.mem_of_getElem? hi) q hq
    have h2:=hlt b (List.mem_of_getElem? hj) q hq2
    omega
  ·rw [List.getElem?_append_right (by omega)] at hi
   by_cases hj2:j<M.length
   ·rw [List.getElem?_append_left hj2] at hj
    have h1:=k.base b (List.mem_of_getElem? hj) q hq2
    have h2:=hlt a (List.mem_of_getElem? hi) q hq
    omega
   ·rw [List.getElem?_append_right (by omega)] at hj
    exact h.apart _ _ a b hi hj (by omega) q hq hq2
theorem Sep.first {w0 w:World} {o:Ob} {M:List Ob} (S:Sep w0 w (o::M)):Sep w0 w [o]:=
 ⟨S.ext,fun a ha=>S.each a (by simp at ha; simp [ha]),fun a ha=>S.base a (by simp at ha; simp [ha]),fun i j a b hi hj hij=>by
  have h1:=(List.getElem?_eq_some_iff.1 hi).1
  have h2:=(List.getElem?_eq_some_iff.1 hj).1
  simp at h1 h2
  omega⟩
theorem Sep.since {w w1 W:World} {M:List Ob} (hx:Ext [] w w1) (S:Sep w1 W M):Sep w W M:=
 ⟨hx.trans S.ext,S.each,fun a ha k hk=>Nat.le_trans hx.size (S.base a ha k hk),S.apart⟩
theorem get_new (v:Value) (l:List Nd) (s:ByteArray) (w:World) (h:NodesAt w v l) (hl:Lt l) :
  Calls Tryz.prog 82 #[v,.string s] w fun e w'=>∃ v2,e=.returned (.tuple #[v2,.bool (getN l s).isSome])∧∃ F,Sep w w' [oTr F v2 ((getN l s).getD [])]:=by
 have HF:=zz (find_walk v l s w h hl)
 cases hfo:foundN (namesN l) s with
 | false=>
  rw [hfo] at HF
  have hR:getN l s=none:=by rw [getN,hfo]; rfl
  rw [hR]
  obtain⟨base,cap,rfl,-,-⟩:=h
  obtain⟨F,hF⟩:∃ F,findN (namesN l) s=F:=⟨_,rfl⟩
  rw [hF] at HF
  clear hR hfo hF
  go_enter Tryz.func82,Tryz.ntmps82
  go_wp2_with fail
  refine HF.out.mono ?_
  rintro e w1 ⟨rfl,hx⟩
  have HX:=zz hx
  clear hx HF
  go_wp2_with fail
  go_ret2
  exact⟨_,rfl,[],tr_nil (HX.out)⟩
 | true=>
 rw [hfo] at HF
 obtain⟨F,hF⟩:∃ F,findN (namesN l) s=F:=⟨_,rfl⟩
 have hlt:F<(namesN l).length:=by
  have:=hfo
  rw [foundN,hF,Bool.and_eq_true] at this
  simpa using this.1
 have his:isN l 8=true:=by
  cases h8:isN l 8 with
  | true=>rfl
  | false=>rw [namesN,h8] at hlt; simp at hlt
 obtain⟨hc,-⟩:=is_facts his
 have hnl:=names_len his
 have hrl:=root_len hc
 have hrk:=root_kids hc
 obtain⟨h0,hn,E,D,hsh,-⟩:=check_zero hc
 have hkl:2*F+1<(ndAt l 0).kids.length:=by omega
 have hcb:=hrk (2*F+1) _ (List.getElem?_eq_getElem hkl)
 have hgd:(ndAt l 0).kids.getD (2*F+1) 0=(ndAt l 0).kids[2*F+1]'hkl:=by rw [List.getD_eq_getElem?_getD,List.getElem?_eq_getElem hkl]; rfl
 obtain⟨k,hk⟩:∃ k:Nat,(ndAt l 0).kids[2*F+1]'hkl=(k:Int):=⟨((ndAt l 0).kids[2*F+1]'hkl).toNat,by omega⟩
 have hR:getN l s=some (subN l k):=by rw [getN,hfo,if_pos rfl,hF,hgd,hk,Int.toNat_natCast]
 rw [hR]
 rw [hk] at hcb
 rw [hF] at HF
 have HSub:=zz (fun W (hx:Ext [] w W)=>sub_own v l W (h.ext hx) k (by omega) hn (by rw [hsh]; simp))
 obtain⟨base,cap,rfl,-,hN⟩:=h
 obtain⟨b,o,rfl,hnd⟩:=node_in hN 0 h0
 rw [Nat.zero_mul,Nat.add_zero,show ((0:Nat):Int)=0 from rfl] at hnd
 obtain⟨-,-,-,-,-,rb,rc,r5,r6⟩:=hnd
 obtain⟨b5,o5,rfl,c5⟩:=r6 (2*F+1) hkl
 rw [hk] at c5
 obtain⟨K,hK⟩:∃ K,(ndAt l 0).kids.length=K:=⟨_,rfl⟩
 rw [hK] at r5 hkl hrl
 obtain⟨n,hln⟩:∃ n,l.length=n:=⟨_,rfl⟩
 rw [hln] at HF HSub h0 ⊢
 have h0z:(0:Int)<(n:Int):=by omega
 have hkz:2*(F:Int)+1<(K:Int):=by omega
 have HC:=zz2 ⟨r5,c5⟩
 clear hR hfo hF hlt his hc hnl hrk hn hsh hcb hgd hk hN r5 c5 r6 hK hln hl h0
 go_enter Tryz.func82,Tryz.ntmps82
 go_wp2_with fail
 refine HF.out.mono ?_
 rintro e w1 ⟨rfl,hx⟩
 have HX:=zz hx
 have HS2:=zz (HSub.out w1 hx)
 have r5:=hx.cell HC.out.1
 have c5:=hx.cell HC.out.2
 clear hx HF HSub HC
 go_wp2_with fail
 refine HS2.out.mono ?_
 rintro e w2 ⟨v2,q2,Z2,rfl,hS2,hZ2⟩
 have HX2:=zz (by rw [←hZ2]; exact Sep.since HX.out (bd_tree hS2):Sep w w2 [oTr (bdF q2 v2 Z2) v2 (subN l k)])
 clear hS2 hZ2 HS2 HX r5 c5
 go_wp2_with fail
 go_ret2
 exact⟨_,rfl,_,HX2.out⟩
theorem under_new (kind:Int) (v:Value) (ls:List (List Nd)) (w:World) (h:TreesAt w v ls) (hn:ls.length≤65536) (hls:∀ l∈ls,∀ x∈l,x.s.size≤1000000) (hck:∀ l∈ls,checkN l=0) :
  Calls Tryz.prog 71 #[.int .i64 kind,v] w fun e w'=>∃ v2,e=.returned (.tuple #[v2,.int .i64 (underN kind ls).2])∧∃ F,Sep w w' [oTr F v2 (underN kind ls).1]:=by
 obtain⟨i0,hif,hz0,hz1,hz2⟩:=info_parts infoInt
 obtain⟨base,cap,rfl,-,hT⟩:=h
 obtain⟨n,hln⟩:∃ n,ls.length=n:=⟨_,rfl⟩
 obtain⟨R,hR⟩:∃ R,underN kind ls=R:=⟨_,rfl⟩
 obtain⟨R1,R2⟩:=R
 have HH:=zz5 ⟨hT,hls,hck,hln,hR⟩
 rw [hR]
 rw [hln] at hn ⊢
 clear hT hls hck hln hR
 go_enter Tryz.func71,Tryz.ntmps71
 go_wp2_with fail
 obtain⟨W1,hW1⟩:∃ W1,w.alloc (Obj.cells #[.int .i64 kind,.int .i64 0,.int .i64 0,.string ⟨#[]⟩,.slice none 0 0] 41)=W1:=⟨_,rfl⟩
 have hx1:Ext [] w W1:=by rw [←hW1]; exact (Ext.refl [] w).alloc _
 have hb1:W1.heap[w.heap.size]? = some (.cells #[.int .i64 kind,.int .i64 0,.int .i64 0,.string ⟨#[]⟩,.slice none 0 0] 41 (0,0)):=by rw [←hW1]; exact heap_alloc_at _
 have hs1:W1.heap.size=w.heap.size+1:=by rw [←hW1]; simp
 rw [hW1]
 obtain⟨g0,hg0⟩:∃ g0,w.heap.size=g0:=⟨_,rfl⟩
 obtain⟨W2,hW2⟩:∃ W2,W1.alloc (Obj.cells #[.slice (some ⟨g0,0,none⟩) 1 1] 156)=W2:=⟨_,rfl⟩
 have hx2:Ext [] W1 W2:=by rw [←hW2]; exact (Ext.refl [] W1).alloc _
 have hb2:W2.heap[W1.heap.size]? = some (.cells #[.slice (some ⟨g0,0,none⟩) 1 1] 156 (0,0)):=by rw [←hW2]; exact heap_alloc_at _
 rw [hg0] at hb1 hs1 ⊢
 rw [hW2]
 rw [hs1] at hb2
 obtain⟨b,hb⟩:∃ b,g0+1=b:=⟨_,rfl⟩
 rw [hb] at hb2 ⊢
 have S:=(Sep.start w).new (hx1.trans hx2) (oBd b (.slice (some ⟨g0,0,none⟩) 1 1) [(rootN kind [],.slice none 0 0)])
  ⟨hb2,⟨rfl,.inr ⟨g0,1,#[.int .i64 kind,.int .i64 0,.int .i64 0,.string ⟨#[]⟩,.slice none 0 0],rfl,Nat.zero_le _,hx2.keep hb1 (by simp),Nat.le_refl _,by decide,rfl,rfl⟩⟩,fun p hp=>by
   obtain rfl:p=(rootN kind [],.slice none 0 0):=by simpa using hp
   exact World.ownsRow_nil _ _ _ _,by simp [bdF,Value.ownBlock]; omega,fun p hp=>by
   obtain rfl:p=(rootN kind [],.slice none 0 0):=by simpa using hp
   exact⟨⟨by show (-9223372036854775808:Int)≤0; omega,by show (0:Int)≤9223372036854775807; omega⟩,by show (0:Nat)≤_; omega,by show (0:Nat)≤_; omega,fun k hk=>by cases hk⟩⟩
  (fun k hk=>by simp [oBd,bdF,Value.ownBlock] at hk; omega)
 have HS:=zz S
 clear S hb2 hb1 hs1 hx1 hx2 hW1 hW2 hb hg0
 go_loopg [4,5,8,16] n (fun g v4 v5 v8 iv wr=>∃ (i:Nat) (vv kv:Value) (K:List Int) (Z2:List Zd),g+i=n∧iv=.int .i64 i∧K.length=i∧Z2.length≤65535∧(∀ p∈Z2,p.1.s.size≤1000000)∧underF kind (ls.drop i) K (Z2.map (·.1))=(R1,R2)∧Sep w wr [oBd b vv ((rootN kind K,kv)::Z2)])
 case atStart=>exact⟨0,_,_,[],[],by omega,rfl,rfl,by simp,by simp,HH.out.2.2.2.2,HS.out⟩
 case round=>
  clear HS
  obtain⟨i,vv,kv,K,Z2,hgi,rfl,hK,hZ,hsz,hR,S⟩:=hrel
  have hP:BdP wr b vv ((rootN kind K,kv)::Z2):=S.get 0 rfl
  obtain⟨g5,c5,rfl⟩:=row_form hP.row (by simp)
  have c0:wr.cell? ⟨b,0,none⟩=some (.slice (some ⟨g5,0,none⟩) (Z2.length+1) c5):=cellOf hP.here 0
  obtain⟨m,hm⟩:∃ m,Z2.length=m:=⟨_,rfl⟩
  rw [hm] at c0 hZ
  by_cases hlt:i<n
  ·obtain⟨g,rfl⟩:∃ g,gk=g+1:=⟨gk - 1,by omega⟩
   have hltz:(i:Int)<(n:Int):=by omega
   have hil:i<ls.length:=by rw [HH.out.2.2.2.1]; exact hlt
   rw [drop_at ls i hil,underF,List.length_map,hm] at hR
   obtain⟨b7,o7,vk,rfl,hc,hN⟩:=HH.out.1 i hil
   have hc:=S.ext.cell hc
   have hx0:=HH.out.2.2.1 _ (List.getElem_mem hil)
   have hxs:=HH.out.2.1 _ (List.getElem_mem hil)
   generalize ls[i]'hil=x at *
   obtain⟨hxl,hxk⟩:=checked_kids hx0
   have HN:=zz hN
   obtain⟨xb,xc,rfl,-,-⟩:=hN
   obtain⟨X,hX⟩:∃ X,x.length=X:=⟨_,rfl⟩
   rw [hX] at hR hc hxl HN
   have HW:=zz9 ⟨hP,S,hR,hK,hsz,hm,hX,hxs,hxk⟩
   clear hP S hR hsz hm hX hxs hxk hx0
   by_cases hbig:65536<1+m+X
   ·have hbz:(65536:Int)<(m:Int)+1+(X:Int):=by omega
    have hRv:=HW.out.2.2.1
    rw [if_pos hbig] at hRv
    injection hRv with r1 r2
    subst r1 r2
    go_wp2_with fail
    go_ret2
    exact⟨_,rfl,[],tr_nil (HW.out.2.1.ext)⟩
   ·have hbz:¬ (65536:Int)<(m:Int)+1+(X:Int):=by omega
    have hRv:=HW.out.2.2.1
    rw [if_neg hbig] at hRv
    have HRV:=zz hRv
    clear hRv
    have hkv:wr.ownsRow 0 3 1 kv i (K.map iz):=by
     have h0:=HW.out.1.kids (rootN kind K,kv) (by simp)
     rw [show (rootN kind K).kids.length=i from hK] at h0
     exact h0
    obtain⟨ao,c6,rfl⟩:=row_slice hkv
    have hP:BdP wr b (.slice (some ⟨g5,0,none⟩) (Z2.length+1) c5) ((rootN kind K,.slice ao i c6)::Z2):=HW.out.1
    have hd:=hP.dup
    unfold bdF at hd
    have hkb:(Value.slice ao i c6).ownBlock≠some b:=fun e=>(List.nodup_cons.1 hd).1 (List.mem_append_right _ (mem_kidF (p:=(rootN kind K,.slice ao i c6)) (by simp) e))
    have hk5:(Value.slice ao i c6).ownBlock≠some g5:=fun e=>(List.nodup_append.1 (List.nodup_cons.1 hd).2).2.2 g5 (by simp [Value.ownBlock]) g5 (mem_kidF (p:=(rootN kind K,.slice ao i c6)) (by simp) e) rfl
    have k4:∀ V:World,V.heap[g5]? = wr.heap[g5]?→V.cell? ⟨g5,4,none⟩=some (.slice ao i c6)∧V.frozen? ⟨g5,4,none⟩=false:=fun V hV=>by
     obtain⟨cur,hg,_,_,_,ht⟩:=row_open hP.row
     rw [←hV] at hg
     refine⟨?_,freeOf hg 4⟩
     rw [cellOf hg]
     have h4:(rowN ((rootN kind K,Value.slice ao i c6)::Z2))[4]? = some (.slice ao i c6):=rfl
     rw [←ht,List.getElem?_take] at h4
     split at h4
     ·simpa using h4
     ·cases h4
    have hg5:∃ ob,wr.heap[g5]? = some ob:=by
     obtain⟨cur,hg,_⟩:=row_open hP.row
     exact⟨_,hg⟩
    obtain⟨ob,hob⟩:=hg5
    have HK:=zz6 ⟨hkv,hP,hkb,hk5,k4,hob⟩
    have e0:∀ y:ExS (Value.slice ao i c6).ownBlock.toList wr,y.w.cell? ⟨b,0,none⟩=some (.slice (some ⟨g5,0,none⟩) (m+1) c5):=fun y=>(World.cell?_of_block (y.ext.block b (lt_of_block hP.here) (by simpa using hkb))).trans c0
    have e4:∀ y:ExS (Value.slice ao i c6).ownBlock.toList wr,y.w.cell? ⟨g5,4,none⟩=some (.slice ao i c6):=fun y=>(k4 y.w (y.ext.block g5 (lt_of_block hob) (by simpa using hk5))).1
    clear hkv hP hd hkb hk5 k4 hob
    go_upto_region 7 with (fail)
    refine wp_region_mid (C:=fun w'=>∃ y:ExS (Value.slice ao i c6).ownBlock.toList wr,w' = y.w) 10 2 (by kernel_rfl) (by kernel_rfl) ⟨ExS.mk _ ((Ext.refl _ wr).drew),rfl⟩ ?_
    simp only [List.take_succ_cons,List.take_zero,List.drop_succ_cons,List.drop_zero]
    repeat (go_big_quiet_step (fail))
    refine wpQuiet_nil ?_
    refine midW_step rfl (fun K9 hK9=>?_)
    go_wp2_with fail
    refine⟨⟨ExS.mk _ ((Ext.refl _ wr).drew.alloc _),rfl⟩,?_⟩
    refine midW_step rfl (fun K9 hK9=>?_)
    refine wp_append_lies _ _ _ 39 rfl 0 3 i0 _ 1 8 Tryz.underlying39 hif hz0 hz1 hz2 rfl (by decide) (.slice ao i c6) i _ rfl ((HK.out.1.alloc _).drew) ⟨wr.heap.size,0,none⟩ 1 1 [.int .i64 ((m:Int)+1)] rfl rfl (cell_one_new _ _ _) (by simp [Value.oneCell']) (by decide) (by unfold maxLen; omega) (by omega) (by omega) (wr.heap.size+1) (by simp) ?_
    intro g6 cap2 w6 hown1 hgrow hat hlt6
    have hgrow:=grown_drew hgrow
    have hxg:Ext (Value.slice ao i c6).ownBlock.toList wr w6:=((Ext.refl _ wr).alloc _).grown hgrow (fun k hk=>.inl (by simp [hk]))
    obtain⟨h4,f4⟩:=HK.out.2.2.2.2.1 w6 (hxg.block g5 (lt_of_block HK.out.2.2.2.2.2) (by simpa using HK.out.2.2.2.1))
    have hkid:=BdP.kid (x:=rootN kind K) (c:=(m:Int)+1) HK.out.2.1 (by rw [show (rootN kind K).kids.length=i from hK]; exact hown1) hgrow hat (by omega) (by rw [show (rootN kind K).kids.length=i from hK]; omega)
    rw [show (rootN kind K).kids.length=i from hK] at hkid
    refine hK9 _ _ ⟨⟨ExS.mk w6 hxg,rfl⟩,?_⟩
    have HKID:=zz hkid
    clear hK9 K9 e0 e4 hgrow hat hlt6 hown1 hkid hxg
    refine midW_nil ?_
    go_wp2_with fail
    refine NoPanic.normal ?_
    clear h4 f4
    have S2:Sep w (w6.setCell ⟨g5,4,none⟩ (.slice (some ⟨g6,0,none⟩) (i+1) cap2)) [oBd b (.slice (some ⟨g5,0,none⟩) (Z2.length+1) c5) ((rootN kind (K++[(m:Int)+1]),.slice (some ⟨g6,0,none⟩) (i+1) cap2)::Z2)]:=HW.out.2.1.upd 0 (oBd b (.slice (some ⟨g5,0,none⟩) (Z2.length+1) c5) ((rootN kind (K++[(m:Int)+1]),.slice (some ⟨g6,0,none⟩) (i+1) cap2)::Z2)) rfl HKID.out.2.1 HKID.out.2.2 HKID.out.1
    obtain⟨W7,hW7⟩:∃ W7,w6.setCell ⟨g5,4,none⟩ (.slice (some ⟨g6,0,none⟩) (i+1) cap2)=W7:=⟨_,rfl⟩
    rw [hW7] at S2 ⊢
    have hXl:=HW.out.2.2.2.2.2.2.1
    have hml:=HW.out.2.2.2.2.2.1
    have hXn:NodesAt w (.slice xb X xc) x:=HN.out
    have HA:=zz (add_walk w W7 _ 0 b _ _ _ x 0 S2 rfl hXn (by rw [List.length_cons,hml,hXl]; omega) (by omega) HW.out.2.2.2.2.2.2.2.2)
    clear hW7 HKID S2 hXl hml hXn
    go_wp2_with fail
    refine HA.out.mono ?_
    rintro ee w8 ⟨rfl,v8,Z3,hZ3,S3⟩
    have HS3:=zz2 ⟨hZ3,S3⟩
    clear hZ3 S3 HA
    go_wp2_with fail
    go_roundg g
    case measure=>omega
    case rel=>
     obtain⟨hZ3,S3⟩:=HS3.out
     rw [List.length_cons,HW.out.2.2.2.2.2.1,show ((m+1:Nat):Int) - ((0:Nat):Int)=((1+m:Nat):Int) by omega] at hZ3
     have hl3:Z3.length=X:=by have:=congrArg List.length hZ3; rw [List.length_map,List.length_map,HW.out.2.2.2.2.2.2.1] at this; exact this
     have hR2:=HRV.out
     rw [←hZ3,←List.map_append,show ((1+m:Nat):Int)=(m:Int)+1 by omega] at hR2
     refine⟨i+1,v8,_,K++[(m:Int)+1],Z2++Z3,by omega,by go_num,by rw [List.length_append,hK]; rfl,by rw [List.length_append,HW.out.2.2.2.2.2.1,hl3]; omega,fun p hp=>?_,hR2,S3⟩
     rcases List.mem_append.1 hp with hp | hp
     ·exact HW.out.2.2.2.2.1 p hp
     ·have:p.1∈x.map (moveN ((1+m:Nat):Int)):=by rw [←hZ3]; exact List.mem_map_of_mem hp
      obtain⟨y,hy,he⟩:=List.mem_map.1 this
      rw [←he]
      exact HW.out.2.2.2.2.2.2.2.1 y hy
  ·obtain rfl:gk=0:=by omega
   rw [List.drop_eq_nil_of_le (by rw [HH.out.2.2.2.1]; omega),underF] at hR
   have HC:=zz (check_walk _ _ wr hP.nodes (by rw [List.length_map,List.length_cons,hm]; omega) (fun x hx=>by
    obtain⟨p,hp,rfl⟩:=List.mem_map.1 hx
    rcases List.mem_cons.1 hp with rfl | hp
    ·show (0:Nat)≤_; omega
    ·exact hsz p hp))
   have HN:=zz3 ⟨hP.nodes,bd_tree S,hR⟩
   rw [List.map_cons] at HC HN
   rw [List.length_cons,hm] at HC HN
   obtain⟨FF,hFF⟩:∃ FF,bdF b (.slice (some ⟨g5,0,none⟩) (m+1) c5) ((rootN kind K,kv)::Z2)=FF:=⟨_,rfl⟩
   rw [hFF] at HN
   obtain⟨Tr,hTr⟩:∃ Tr,rootN kind K::Z2.map (·.1)=Tr:=⟨_,rfl⟩
   simp only [hTr] at HC HN
   clear hP S hR hm hsz hK hTr
   obtain⟨e,he⟩:∃ e,checkN Tr=e:=⟨_,rfl⟩
   rw [he] at HC HN
   have hlt' : ¬ (i:Int)<(n:Int):=by omega
   clear he
   go_wp2_with fail
   refine HC.out.mono ?_
   rintro ee w3 ⟨rfl,hx3⟩
   have c1:=hx3.cell c0
   have HX3:=zz hx3
   clear hx3 HC c0
   by_cases he:e=0
   ·subst he
    have hRv:=HN.out.2.2
    rw [if_pos rfl] at hRv
    injection hRv with r1 r2
    subst r1 r2
    go_wp2_with fail
    go_ret2
    exact⟨_,rfl,_,HN.out.2.1.quiet HX3.out⟩
   ·have heb:(e != 0)=true:=bne_iff_ne.2 he
    have hRv:=HN.out.2.2
    rw [if_neg he] at hRv
    injection hRv with r1 r2
    subst r1 r2
    go_wp2_with fail
    go_ret2
    exact⟨_,rfl,[],tr_nil (HN.out.2.1.ext.trans HX3.out)⟩
theorem dict_new (w0 w:World) (L:List Ob) (jj:Nat) (v:Value) (P:List (Et×List Nd)) (S:Sep w0 w L) (hj:L[jj]? = some (oEt v (P.map (·.1)))) (hq:P.length≤20∨P.length≤1000∧ndE (P.map (·.1)))
  (hV:∀ (W:World) (o:Ob),Sep w0 W (L.set jj o)→∀ p∈P,NodesAt W (slC p.1.2) p.2) (hs:∀ p∈P,p.1.1.size≤1000000∧nameN p.1.1=0∧checkN p.2=0∧∀ x∈p.2,x.s.size≤1000000) :
  Calls Tryz.prog 69 #[v] w fun e w'=>∃ v2,e=.returned (.tuple #[v2,.int .i64 (dictN (P.map fun p=>(p.1.1,p.2))).2])∧∃ F,Sep w0 w' (oTr F v2 (dictN (P.map fun p=>(p.1.1,p.2))).1::L.set jj (oEt v (sortN (P.map (·.1))))):=by
 obtain⟨j0,hjf,hy0,hy1,hy2⟩:=info_parts infoNodes
 have hl:P.length≤1000:=by omega
 have HI:=zz (sort2_walk w0 w L jj v _ S hj (by rw [List.length_map]; exact hq))
 clear hq
 have hjl:jj<L.length:=(List.getElem?_eq_some_iff.1 hj).1
 have hown:w.ownsRow 0 125 2 v (P.map (·.1)).length (etC (P.map (·.1))):=S.get jj hj
 obtain⟨ao,cap,rfl⟩:=row_slice hown
 clear hown S hj
 obtain⟨SP,hSP⟩:∃ SP,sortG (fun p:Et×List Nd=>p.1.1) P=SP:=⟨_,rfl⟩
 have hE1:sortN (P.map (·.1))=SP.map (·.1):=by rw [sortN_G,sortG_map,hSP]
 have hE2:sortG (fun p:Ent=>p.1) (P.map fun p=>(p.1.1,p.2))=SP.map (fun p=>(p.1.1,p.2)):=by rw [sortG_map,hSP]
 obtain⟨n,hn⟩:∃ n,P.length=n:=⟨_,rfl⟩
 have hSl:SP.length=n:=by rw [←hSP,sortG_len,hn]
 have hmem:∀ p,p∈SP→p∈P:=fun p hp=>(sortG_mem _ _ _).1 (by rw [hSP]; exact hp)
 obtain⟨R,hR⟩:∃ R,dictN (P.map fun p=>(p.1.1,p.2))=R:=⟨_,rfl⟩
 rw [hR]
 rw [dictN,hE2] at hR
 rw [hE1] at HI ⊢
 have hL2:(P.map (·.1)).length=n:=by rw [List.length_map,hn]
 rw [hL2] at HI ⊢
 have HH:=zz (⟨hR,hSl,fun p hp=>hs p (hmem p hp),fun W o hW p hp=>hV W o hW p (hmem p hp)⟩:_∧_∧(∀ p∈SP,p.1.1.size≤1000000∧nameN p.1.1=0∧checkN p.2=0∧∀ x∈p.2,x.s.size≤1000000)∧(∀ (W:World) (o:Ob),Sep w0 W (L.set jj o)→∀ p∈SP,NodesAt W (slC p.1.2) p.2))
 rw [hn] at hl
 clear hR hSl hs hV hmem hE1 hE2 hSP hn hL2
 go_enter Tryz.func69,Tryz.ntmps69
 go_wp2_with fail
 refine HI.out.mono ?_
 rintro e w1 ⟨rfl,S⟩
 have S:=S.new (Ext.refl _ _) (oNm []) (fun p hp=>by cases hp) (fun k hk=>by cases hk)
 have S:=S.new (Ext.refl _ _) (oSl 31 1 (.slice none 0 0) 0 []) (World.ownsRow_nil _ _ _ _) (fun q hq=>by simp [oSl,Value.ownBlock] at hq)
 have HS:=zz S
 clear S HI
 go_wp2_with fail
 go_loopg [2,3,4,5,6,11] n (fun g v2 v3 ov v5 v6 iv wr=>∃ (i:Nat) (G:List (Nat×ByteArray)) (p:Option ByteArray),g+i=n∧iv=.int .i64 i∧G.length=i∧G.map (·.2)=(SP.take i).map (·.1.1)∧twiceF p ((SP.drop i).map fun p=>(p.1.1,p.2))=twiceF none (SP.map fun p=>(p.1.1,p.2))∧((i=0∧p=none)∨∃ q,0<i∧SP[i - 1]? = some q∧p=some q.1.1)∧
  Sep w0 wr (oSl 31 1 ov (2*i) (allC G ((SP.take i).map (·.1)))::oNm G::L.set jj (oEt (.slice ao n cap) (SP.map (·.1)))))
 case atStart=>exact⟨0,[],none,by omega,rfl,rfl,rfl,rfl,.inl ⟨rfl,rfl⟩,HS.out⟩
 case round=>
  clear HS
  obtain⟨i,G,p,hgi,rfl,hG,hGm,htw,hp,S⟩:=hrel
  have hr0:wr.ownsRow 0 31 1 u4 (2*i) (allC G ((SP.take i).map (·.1))):=S.get 0 rfl
  obtain⟨ao4,cap4,rfl⟩:=row_slice hr0
  by_cases hlt:i<n
  ·obtain⟨g,rfl⟩:∃ g,gk=g+1:=⟨gk - 1,by omega⟩
   have hltz:(i:Int)<(n:Int):=by omega
   have hil:i<SP.length:=by rw [HH.out.2.1]; exact hlt
   have hrow:wr.ownsRow 0 125 2 (.slice ao n cap) n (etC (SP.map (·.1))):=by
    have h1:=S.get (jj+2) (List.getElem?_set_self hjl)
    have h2:wr.ownsRow 0 125 2 (.slice ao n cap) (SP.map (·.1)).length (etC (SP.map (·.1))):=h1
    rw [List.length_map,HH.out.2.1] at h2
    exact h2
   obtain⟨g1,c1,he⟩:=row_form hrow (by omega)
   cases he
   have hat:∀ k (hk:k<SP.length),wr.cell? ⟨g1,k*2,none⟩=some (.string (SP[k]'hk).1.1)∧wr.cell? ⟨g1,k*2+1,none⟩=some (slC (SP[k]'hk).1.2):=fun k hk=>by
    have hsp:SP.map (·.1)=(SP.take k).map (·.1)++(SP[k]'hk).1::(SP.drop (k+1)).map (·.1):=by
     rw [←List.map_cons (f:=fun p:Et×List Nd=>p.1),←drop_at SP k hk,←List.map_append,List.take_append_drop]
    have h3:=hrow
    rw [hsp] at h3
    obtain⟨q1,q2,_⟩:=et_cells h3 k (by rw [List.length_map,List.length_take]; omega)
    exact⟨q1,q2⟩
   have HAT:=zz hat
   obtain⟨e1,e2⟩:=hat i hil
   have hdr:(SP.drop i).map (fun p:Et×List Nd=>(p.1.1,p.2))=((SP[i]'hil).1.1,(SP[i]'hil).2)::(SP.drop (i+1)).map (fun p=>(p.1.1,p.2)):=by rw [drop_at SP i hil,List.map_cons]
   have htk:SP.take (i+1)=SP.take i++[SP[i]'hil]:=by rw [List.take_succ_eq_append_getElem hil]
   have hget:SP[i]? = some (SP[i]'hil):=List.getElem?_eq_getElem hil
   generalize SP[i]'hil=x at *
   rw [hdr,twiceF] at htw
   obtain⟨⟨nm,xa,xn,xc⟩,xt⟩:=x
   simp only [slC] at e1 e2 htw
   have HX:=zz8 ⟨S,hG,hGm,htw,hp,htk,hget,hr0⟩
   clear S hG hGm htw hp htk hget hr0 hat hrow hdr
   go_upto_region 6 with (fail)
   obtain⟨W,hW⟩:∃ W,wr.alloc (Obj.cells #[.string nm,.slice xa xn xc] 125)=W:=⟨_,rfl⟩
   have hx9:Ext [] wr W:=by rw [←hW]; exact (Ext.refl [] wr).alloc _
   have hb9:W.heap[wr.heap.size]? = some (.cells #[.string nm,.slice xa xn xc] 125 (0,0)):=by rw [←hW]; exact heap_alloc_at _
   obtain⟨q,hq⟩:∃ q,wr.heap.size=q:=⟨_,rfl⟩
   rw [hq] at hb9 ⊢
   rw [hW]
   have q0:W.cell? ⟨q,0,none⟩=some (.string nm):=cellOf hb9 0
   have q1:W.cell? ⟨q,1,none⟩=some (.slice xa xn xc):=cellOf hb9 1
   have HX9:=zz hx9
   clear hb9 hq hW hx9 e1 e2
   have htw:=HX.out.2.2.2.1
   rcases HX.out.2.2.2.2.1 with ⟨hi0,hp0⟩ | ⟨q5,hi0,hq5,hp0⟩
   ·rw [hp0,likeN,Bool.false_or] at htw
    have HTW:=zz htw
    have hd:decide ((0:Int)<(i:Int))=false:=decide_eq_false (by omega)
    have hd2:decide (0<i)=false:=decide_eq_false (by omega)
    clear htw hp0 hi0
    go_quiet (fail)
    go_upto_region 8 with (fail)
    obtain⟨W2,hW2⟩:∃ W2,W.drewN nq=W2:=⟨_,rfl⟩
    rw [hW2]
    have hx2:Ext [] wr W2:=by rw [←hW2]; exact HX9.out.drewN _
    have b0:W2.cell? ⟨q,0,none⟩=some (.string nm):=by rw [←hW2]; exact q0
    have b1:W2.cell? ⟨q,1,none⟩=some (.slice xa xn xc):=by rw [←hW2]; exact q1
    have b2:(W2.alloc (.cells #[.int .i64 6,.int .i64 0,.int .i64 0,.string nm,.slice none 0 0] 41)).cell? ⟨q,1,none⟩=some (.slice xa xn xc):=((Ext.refl [] W2).alloc _).cell b1
    have HR:=zz2 ⟨ownsRow_ext HX.out.2.2.2.2.2.2.2 hx2 (by simp),hx2⟩
    clear hW2 q0 q1 hx2 hd hd2
    go_wp2_with (first | (at_builtin; refine wpList_append_lies _ rfl _ _ 57 rfl 0 31 j0 _ 1 24 Tryz.underlying57 hjf hy0 hy1 hy2 rfl (by decide) (.slice ao4 (2*i) cap4) (2*i) _ rfl (World.ownsRow.alloc (World.ownsRow.alloc HR.out.1 _) _) ⟨W2.heap.size+1,0,none⟩ 2 2 [.slice (some ⟨W2.heap.size,0,none⟩) 1 1,.slice xa xn xc] rfl rfl (cells_two2 _ _ _ _ _) (by simp [Value.oneCell']) (by decide) (by unfold maxLen; omega) (by omega) (by omega) (W2.heap.size+2) (by simp) ?_; intro g6 cap2 w6 hown1 hgrow hat6 hlt6))
    have hsz:(W2.alloc (nmObj nm)).heap.size=W2.heap.size+1:=by simp
    have Pl:=push_local (w:=W2.alloc (nmObj nm)) (cap:=cap2) (n:=2*i+2) hgrow (by rcases hat6 with q1 | q1; exact .inl q1; exact .inr (by rw [hsz]; omega))
    have S1:=(HX.out.1.quiet HR.out.2).upd 1 (oNm (G++[(W2.heap.size,nm)])) rfl (((Ext.refl [] W2).alloc (nmObj nm)).weak) (fun k hk=>by
     obtain⟨p9,hp9,rfl⟩:=List.mem_map.1 hk
     rcases List.mem_append.1 hp9 with h9 | h9
     ·exact .inl (List.mem_map_of_mem h9)
     ·obtain rfl:p9=(W2.heap.size,nm):=by simpa using h9
      exact .inr (Nat.le_refl _)) (fun p9 hp9=>by
     rcases List.mem_append.1 hp9 with h9 | h9
     ·exact heap_alloc_old _ ((HX.out.1.quiet HR.out.2).get 1 rfl p9 h9)
     ·obtain rfl:p9=(W2.heap.size,nm):=by simpa using h9
      exact heap_alloc_at _)
    have S2:=S1.upd 0 (oSl 31 1 (.slice (some ⟨g6,0,none⟩) (2*(i+1)) cap2) (2*(i+1)) (allC (G++[(W2.heap.size,nm)]) ((SP.take (i+1)).map (·.1)))) rfl Pl.1 Pl.2 (by
     show World.ownsRow _ 0 31 1 _ _ _
     rw [HX.out.2.2.2.2.2.1,List.map_append,List.map_cons,List.map_nil,allC_push _ _ _ _ (by rw [HX.out.2.1,List.length_map,List.length_take]; omega)]
     exact hown1)
    go_roundg g
    case measure=>omega
    case rel=>
     refine⟨i+1,G++[(W2.heap.size,nm)],some nm,by omega,by go_num,by rw [List.length_append,HX.out.2.1]; rfl,by rw [List.map_append,HX.out.2.2.1,HX.out.2.2.2.2.2.1,List.map_append]; rfl,HTW.out,.inr ⟨_,by omega,by rw [Nat.add_sub_cancel]; exact HX.out.2.2.2.2.2.2.1,rfl⟩,S2⟩
   ·have hd:decide ((0:Int)<(i:Int))=true:=decide_eq_true (by omega)
    have hd2:decide (0<i)=true:=decide_eq_true (by omega)
    obtain⟨i5,hi5⟩:∃ i5,i - 1=i5:=⟨_,rfl⟩
    rw [hi5] at hq5
    obtain⟨h5a,h5b⟩:=List.getElem?_eq_some_iff.1 hq5
    obtain⟨c5,-⟩:=HAT.out i5 h5a
    rw [h5b] at c5
    have c5:=HX9.out.cell c5
    have hi5z:(i:Int) - 1=(i5:Int):=by omega
    have hi5n:(i5:Int)<(n:Int):=by omega
    obtain⟨s5,hs5⟩:∃ s5,q5.1.1=s5:=⟨_,rfl⟩
    rw [hs5] at c5 hp0
    rw [hp0,likeN] at htw
    have hi1:(1:Int)≤(i:Int):=by omega
    clear hp0 hq5 h5b hs5 hi5 h5a hi0
    cases hlk:(s5.toList==nm.toList) with
    | true=>
     rw [hlk,Bool.true_or] at htw
     have hR:=HH.out.1
     rw [←htw,if_pos rfl] at hR
     subst hR
     clear htw
     go_quiet (fail)
     go_wp2_with fail
     go_ret2
     have S9:=(HX.out.1.quiet (HX9.out.drewN nq))
     exact⟨_,rfl,[],sep_cat (Sep.tail (Sep.tail S9)) (tr_nil (Ext.refl [] _))⟩
    | false=>
     rw [hlk,Bool.false_or] at htw
     have HTW:=zz htw
     clear htw
     go_quiet (fail)
     go_upto_region 8 with (fail)
     obtain⟨W2,hW2⟩:∃ W2,W.drewN nq=W2:=⟨_,rfl⟩
     rw [hW2]
     have hx2:Ext [] wr W2:=by rw [←hW2]; exact HX9.out.drewN _
     have b0:W2.cell? ⟨q,0,none⟩=some (.string nm):=by rw [←hW2]; exact q0
     have b1:W2.cell? ⟨q,1,none⟩=some (.slice xa xn xc):=by rw [←hW2]; exact q1
     have b2:(W2.alloc (.cells #[.int .i64 6,.int .i64 0,.int .i64 0,.string nm,.slice none 0 0] 41)).cell? ⟨q,1,none⟩=some (.slice xa xn xc):=((Ext.refl [] W2).alloc _).cell b1
     have HR:=zz2 ⟨ownsRow_ext HX.out.2.2.2.2.2.2.2 hx2 (by simp),hx2⟩
     clear hW2 q0 q1 hx2 hd hd2 c5 hi5z hlk
     go_wp2_with (first | (at_builtin; refine wpList_append_lies _ rfl _ _ 57 rfl 0 31 j0 _ 1 24 Tryz.underlying57 hjf hy0 hy1 hy2 rfl (by decide) (.slice ao4 (2*i) cap4) (2*i) _ rfl (World.ownsRow.alloc (World.ownsRow.alloc HR.out.1 _) _) ⟨W2.heap.size+1,0,none⟩ 2 2 [.slice (some ⟨W2.heap.size,0,none⟩) 1 1,.slice xa xn xc] rfl rfl (cells_two2 _ _ _ _ _) (by simp [Value.oneCell']) (by decide) (by unfold maxLen; omega) (by omega) (by omega) (W2.heap.size+2) (by simp) ?_; intro g6 cap2 w6 hown1 hgrow hat6 hlt6))
     have hsz:(W2.alloc (nmObj nm)).heap.size=W2.heap.size+1:=by simp
     have Pl:=push_local (w:=W2.alloc (nmObj nm)) (cap:=cap2) (n:=2*i+2) hgrow (by rcases hat6 with q1 | q1; exact .inl q1; exact .inr (by rw [hsz]; omega))
     have S1:=(HX.out.1.quiet HR.out.2).upd 1 (oNm (G++[(W2.heap.size,nm)])) rfl (((Ext.refl [] W2).alloc (nmObj nm)).weak) (fun k hk=>by
      obtain⟨p9,hp9,rfl⟩:=List.mem_map.1 hk
      rcases List.mem_append.1 hp9 with h9 | h9
      ·exact .inl (List.mem_map_of_mem h9)
      ·obtain rfl:p9=(W2.heap.size,nm):=by simpa using h9
       exact .inr (Nat.le_refl _)) (fun p9 hp9=>by
      rcases List.mem_append.1 hp9 with h9 | h9
      ·exact heap_alloc_old _ ((HX.out.1.quiet HR.out.2).get 1 rfl p9 h9)
      ·obtain rfl:p9=(W2.heap.size,nm):=by simpa using h9
       exact heap_alloc_at _)
     have S2:=S1.upd 0 (oSl 31 1 (.slice (some ⟨g6,0,none⟩) (2*(i+1)) cap2) (2*(i+1)) (allC (G++[(W2.heap.size,nm)]) ((SP.take (i+1)).map (·.1)))) rfl Pl.1 Pl.2 (by
      show World.ownsRow _ 0 31 1 _ _ _
      rw [HX.out.2.2.2.2.2.1,List.map_append,List.map_cons,List.map_nil,allC_push _ _ _ _ (by rw [HX.out.2.1,List.length_map,List.length_take]; omega)]
      exact hown1)
     go_roundg g
     case measure=>omega
     case rel=>
      refine⟨i+1,G++[(W2.heap.size,nm)],some nm,by omega,by go_num,by rw [List.length_append,HX.out.2.1]; rfl,by rw [List.map_append,HX.out.2.2.1,HX.out.2.2.2.2.2.1,List.map_append]; rfl,HTW.out,.inr ⟨_,by omega,by rw [Nat.add_sub_cancel]; exact HX.out.2.2.2.2.2.2.1,rfl⟩,S2⟩
  ·obtain rfl:gk=0:=by omega
   obtain rfl:i=n:=by omega
   have htake:SP.take i=SP:=by rw [←HH.out.2.1,List.take_length]
   have hf:twiceF p []=false:=by cases p <;> rfl
   rw [List.drop_eq_nil_of_le (by rw [HH.out.2.1]; omega),List.map_nil,hf] at htw
   have hR:=HH.out.1
   rw [←htw,if_neg (by simp)] at hR
   rw [htake] at hGm hr0
   have hS2:=Sep.tail (Sep.tail S)
   have hT:TreesAt wr (.slice ao4 (2*i) cap4) (allN (SP.map fun p=>(p.1.1,p.2))):=by
    refine trees_of (G:=G) ?_ hGm (S.get 1 rfl) (fun p hp=>⟨HH.out.2.2.2 wr _ hS2 p hp,by have:=(HH.out.2.2.1 p hp).1; omega⟩)
    rw [HH.out.2.1]
    exact hr0
   have hU:=under_new 8 _ _ wr hT (by rw [allN_len,List.length_map,HH.out.2.1]; omega) (fun l hl x hx=>by
    obtain⟨p9,hp9,h9⟩:=List.mem_flatMap.1 hl
    obtain⟨p8,hp8,rfl⟩:=List.mem_map.1 hp9
    have hp7:=HH.out.2.2.1 p8 hp8
    simp only [List.mem_cons,List.not_mem_nil,or_false] at h9
    rcases h9 with rfl | rfl
    ·obtain rfl:x=nameNd p8.1.1:=by simpa using hx
     exact hp7.1
    ·exact hp7.2.2.2 x hx) (fun l hl=>by
    obtain⟨p9,hp9,h9⟩:=List.mem_flatMap.1 hl
    obtain⟨p8,hp8,rfl⟩:=List.mem_map.1 hp9
    have hp7:=HH.out.2.2.1 p8 hp8
    simp only [List.mem_cons,List.not_mem_nil,or_false] at h9
    rcases h9 with rfl | rfl
    ·exact name_ok hp7.2.1
    ·exact hp7.2.2.1)
   rw [hR] at hU
   have HU:=zz hU
   have HS2:=zz hS2
   clear hU hR hT hS2 S hG hGm htw hp hr0 htake hf
   go_wp2_with fail
   refine HU.out.mono ?_
   rintro e w2 ⟨v2,rfl,F2,hx2⟩
   have HF:=zz (sep_cat HS2.out hx2)
   clear hx2 HU HS2
   go_wp2_with fail
   go_ret2
   exact⟨_,rfl,_,HF.out⟩
theorem set_new (u v:Value) (l t:List Nd) (key:ByteArray) (w:World) (hu:NodesAt w u l) (hv:NodesAt w v t) (hl:Lt l) (ht:Lt t) (hks:key.size≤1000000) (hsm:(entsN l key).length≤999) :
  Calls Tryz.prog 30 #[u,.string key,v] w fun e w'=>∃ v2,e=.returned (.tuple #[v2,.int .i64 (setN l key t).2])∧∃ F,Sep w w' [oTr F v2 (setN l key t).1]:=by
 obtain⟨i0,hif,hz0,hz1,hz2⟩:=info_parts infoEntry
 have HF:=zz (fun (x:Value) (W:World) (hT:TreesAt W x [l,t])=>first_walk x [l,t] W hT (by simp) (fun q hq=>by
  simp only [List.mem_cons,List.not_mem_nil,or_false] at hq
  rcases hq with rfl | rfl
  ·exact⟨hl.len,hl.s⟩
  ·exact⟨ht.len,ht.s⟩))
 obtain⟨R,hR⟩:∃ R,setN l key t=R:=⟨_,rfl⟩
 rw [hR]
 rw [setN] at hR
 obtain⟨f,hf⟩:∃ f,firstN [l,t]=f:=⟨_,rfl⟩
 rw [hf] at hR HF
 have hu':=hu
 have hv':=hv
 obtain⟨ub,uc,rfl,-,hN⟩:=hu'
 obtain⟨vb,vc,rfl,-,-⟩:=hv'
 obtain⟨n,hn⟩:∃ n,l.length=n:=⟨_,rfl⟩
 obtain⟨m,hm⟩:∃ m,t.length=m:=⟨_,rfl⟩
 rw [hn] at hu ⊢
 rw [hm] at hv ⊢
 have HU:=zz2 ⟨hu,hv⟩
 by_cases f0:f=0
 case neg=>
  rw [if_pos f0] at hR
  subst hR
  have hfb:(f != 0)=true:=bne_iff_ne.2 f0
  clear hf hu hv hN f0 hn hm
  go_enter Tryz.func30,Tryz.ntmps30
  go_wp2_with fail
  have hx1:Ext [] w (w.alloc (.cells #[.slice ub n uc,.slice vb m vc] 31)):=(Ext.refl [] w).alloc _
  have hT:=trees2g (heap_alloc_at (w:=w) (.cells #[.slice ub n uc,.slice vb m vc] 31)) (HU.out.1.ext hx1) (HU.out.2.ext hx1)
  have HF2:=zz (HF.out _ _ hT)
  have HX:=zz hx1
  clear hx1 hT
  refine HF2.out.mono ?_
  rintro e w2 ⟨rfl,hx2⟩
  have HX2:=zz (HX.out.trans hx2)
  clear hx2 HF2
  go_wp2_with fail
  go_ret2
  exact⟨_,rfl,[],tr_nil (HX2.out)⟩
 case pos=>
 subst f0
 rw [if_neg (by simp)] at hR
 have hcl:=firstN_zero hf l (by simp)
 have hct:=firstN_zero hf t (by simp)
 obtain⟨h0,hn9,E,D,hsh,-⟩:=check_zero hcl
 obtain⟨b,o,rfl,n1,-⟩:=node_in hN 0 h0
 rw [Nat.zero_mul,Nat.add_zero,show ((0:Nat):Int)=0 from rfl] at n1
 have h0z:(0:Int)<(n:Int):=by omega
 have HNm:=zz (fun W=>name_walk key W)
 obtain⟨z,hz⟩:∃ z,nameN key=z:=⟨_,rfl⟩
 simp only [hz] at HNm hR
 obtain⟨kd,hkd⟩:∃ kd,(ndAt l 0).kind=kd:=⟨_,rfl⟩
 rw [hkd] at n1 hR
 have HN1:=zz n1
 by_cases k8:kd=8
 case neg=>
  rw [if_pos (.inl k8)] at hR
  subst hR
  have hkb:(kd != 8)=true:=bne_iff_ne.2 k8
  clear hf hu hv hN n1 hkd hz k8 hcl hct hsh hn9 h0 hn hm
  go_enter Tryz.func30,Tryz.ntmps30
  go_wp2_with fail
  have hx1:Ext [] w (w.alloc (.cells #[.slice (some ⟨b,o,none⟩) n uc,.slice vb m vc] 31)):=(Ext.refl [] w).alloc _
  have hT:=trees2g (heap_alloc_at (w:=w) (.cells #[.slice (some ⟨b,o,none⟩) n uc,.slice vb m vc] 31)) (HU.out.1.ext hx1) (HU.out.2.ext hx1)
  have HF2:=zz (HF.out _ _ hT)
  have HX:=zz hx1
  clear hx1 hT
  refine HF2.out.mono ?_
  rintro e w2 ⟨rfl,hx2⟩
  have n2:=(HX.out.trans hx2).cell HN1.out
  have HX2:=zz (HX.out.trans hx2)
  clear hx2 HF2
  go_wp2_with fail
  go_ret2
  exact⟨_,rfl,[],tr_nil (HX2.out)⟩
 case pos=>
 subst k8
 have his:isN l 8=true:=by rw [isN]; simp [hcl,hkd]
 by_cases z0:z=0
 case neg=>
  rw [if_pos (.inr z0)] at hR
  subst hR
  have hzb:(z != 0)=true:=bne_iff_ne.2 z0
  clear hf hu hv hN n1 hkd hz z0 hcl hct hsh hn9 h0 hn hm his
  go_enter Tryz.func30,Tryz.ntmps30
  go_wp2_with fail
  have hx1:Ext [] w (w.alloc (.cells #[.slice (some ⟨b,o,none⟩) n uc,.slice vb m vc] 31)):=(Ext.refl [] w).alloc _
  have hT:=trees2g (heap_alloc_at (w:=w) (.cells #[.slice (some ⟨b,o,none⟩) n uc,.slice vb m vc] 31)) (HU.out.1.ext hx1) (HU.out.2.ext hx1)
  have HF2:=zz (HF.out _ _ hT)
  have HX:=zz hx1
  clear hx1 hT
  refine HF2.out.mono ?_
  rintro e w2 ⟨rfl,hx2⟩
  have n2:=(HX.out.trans hx2).cell HN1.out
  have HX2:=zz (HX.out.trans hx2)
  clear hx2 HF2
  go_wp2_with fail
  refine (HNm.out _).mono ?_
  rintro e w3 ⟨rfl,hx3⟩
  have HX3:=zz (HX2.out.trans hx3)
  clear hx3 n2
  go_wp2_with fail
  go_ret2
  exact⟨_,rfl,[],tr_nil (HX3.out)⟩
 case pos=>
 subst z0
 rw [if_neg (by simp)] at hR
 have HE:=zz (fun W (hx:Ext [] w W)=>ents_walk (.slice (some ⟨b,o,none⟩) n uc) l key W (hu.ext hx) his)
 have HP:=zz (fun P hP=>ents_P (l:=l) (but:=key) (P:=P) hP his hl)
 have hnd:=ents_add his key t
 have HD:=zz6 ⟨hR,hsm,hz,hct,ht.s,hks⟩
 have HND:=zz hnd
 clear hnd
 clear hf hu hv hN n1 hkd hz hcl hct hsh hn9 h0 hn hm his hR hsm
 go_enter Tryz.func30,Tryz.ntmps30
 go_wp2_with fail
 have hx1:Ext [] w (w.alloc (.cells #[.slice (some ⟨b,o,none⟩) n uc,.slice vb m vc] 31)):=(Ext.refl [] w).alloc _
 have hT:=trees2g (heap_alloc_at (w:=w) (.cells #[.slice (some ⟨b,o,none⟩) n uc,.slice vb m vc] 31)) (HU.out.1.ext hx1) (HU.out.2.ext hx1)
 have HF2:=zz (HF.out _ _ hT)
 have HX:=zz hx1
 clear hx1 hT HF
 refine HF2.out.mono ?_
 rintro e w2 ⟨rfl,hx2⟩
 have n2:=(HX.out.trans hx2).cell HN1.out
 have HX2:=zz (HX.out.trans hx2)
 clear hx2 HF2 HX
 go_wp2_with fail
 refine (HNm.out _).mono ?_
 rintro e w3 ⟨rfl,hx3⟩
 have HX3:=zz (HX2.out.trans hx3)
 clear hx3 n2 HX2 HNm
 go_wp2_with fail
 refine (HE.out _ HX3.out).mono ?_
 rintro e w4 ⟨ov,P,F,rfl,S,hP⟩
 have hPl:P.length≤999:=by have:=congrArg List.length hP; rw [List.length_map] at this; have:=HD.out.2.1; omega
 have hr0:w4.ownsRow 0 125 2 ov (P.map (·.1)).length (etC (P.map (·.1))):=S.get 0 rfl
 rw [List.length_map] at hr0
 obtain⟨ao3,c3,rfl⟩:=row_slice hr0
 obtain⟨q,hq⟩:∃ q,P.length=q:=⟨_,rfl⟩
 rw [hq] at hr0 S hPl ⊢
 have HS:=zz4 ⟨S,hr0,hP,hq⟩
 clear S hr0 hP hq HE
 go_wp2_with (first | (at_builtin; refine wpList_append_lies _ rfl _ _ 122 rfl 0 125 i0 _ 2 40 Tryz.underlying122 hif hz0 hz1 hz2 rfl (by decide) (.slice ao3 q c3) q _ rfl (World.ownsRow.alloc HS.out.2.1 _) ⟨w4.heap.size,0,none⟩ 1 1 [.string key,.slice vb m vc] rfl rfl (cells_two _ _ _ _) (by simp [Value.oneCell']) (by decide) (by unfold maxLen; omega) (by omega) (by omega) (w4.heap.size+1) (by simp) ?_; intro g6 cap2 w6 hown1 hgrow hat6 hlt6))
 have Pl:=push_local (cap:=cap2) (n:=q+1) hgrow hat6
 have S2:=HS.out.1.upd 0 (oEt (.slice (some ⟨g6,0,none⟩) (q+1) cap2) ((P++[((key,vb,m,vc),t)]).map (·.1))) rfl Pl.1 Pl.2 (by
  show World.ownsRow _ 0 125 2 _ _ _
  rw [List.length_map,List.length_append,HS.out.2.2.2,List.map_append,etC_append]
  exact hown1)
 have hdw:=dict_new w3 w6 _ 0 _ (P++[((key,vb,m,vc),t)]) S2 rfl (.inr ⟨by rw [List.length_append,HS.out.2.2.2]; simp; omega,by have:=HND.out; rw [←HS.out.2.2.1] at this; simpa [ndE,Function.comp_def] using this⟩) (fun W o hS p hp=>by
  rcases List.mem_append.1 hp with hp | hp
  ·exact (hS.get 1 rfl).2 W (fun _ _=>rfl) p hp
  ·obtain rfl:p=((key,vb,m,vc),t):=by simpa using hp
   exact HU.out.2.ext (HX3.out.trans hS.ext)) (fun p hp=>by
  rcases List.mem_append.1 hp with hp | hp
  ·exact HP.out P HS.out.2.2.1 p hp
  ·obtain rfl:p=((key,vb,m,vc),t):=by simpa using hp
   exact⟨HD.out.2.2.2.2.2,HD.out.2.2.1,HD.out.2.2.2.1,HD.out.2.2.2.2.1⟩)
 rw [List.map_append,HS.out.2.2.1] at hdw
 simp only [List.map_cons,List.map_nil] at hdw
 rw [HD.out.1] at hdw
 have HW:=zz hdw
 clear hdw S2 Pl hown1 hgrow hat6 hlt6 hPl
 refine HW.out.mono ?_
 rintro e w7 ⟨v7,rfl,F3,S7⟩
 have HFin:=zz (Sep.since HX3.out (Sep.first S7))
 clear S7 HW
 go_wp2_with fail
 go_ret2
 exact⟨_,rfl,_,HFin.out⟩
theorem dictX_new (u v:Value) (names:List ByteArray) (ls:List (List Nd)) (w:World) (hu:StrsAt w u names) (hv:TreesAt w v ls) (hn:names.length≤20) (hnl:ls.length≤1048576) (hls:light6 ls) :
  Calls Tryz.prog 66 #[u,v] w fun e w'=>∃ v2,e=.returned (.tuple #[v2,.int .i64 (dictionN names ls).2])∧∃ F,Sep w w' [oTr F v2 (dictionN names ls).1]:=by
 obtain⟨i0,hif,hz0,hz1,hz2⟩:=info_parts infoEntry
 have HC:=zz (cont_walk u names w hu (by omega))
 have HF:=zz (fun w1 (hx:Ext [] w w1)=>first_walk v ls w1 (hv.ext hx) hnl hls)
 obtain⟨R,hR⟩:∃ R,dictionN names ls=R:=⟨_,rfl⟩
 rw [hR]
 rw [dictionN] at hR
 obtain⟨ub,uc,rfl,-,hU⟩:=hu
 obtain⟨vb,vc,rfl,-,hT⟩:=hv
 obtain⟨n,hnn⟩:∃ n,names.length=n:=⟨_,rfl⟩
 obtain⟨m,hm⟩:∃ m,ls.length=m:=⟨_,rfl⟩
 have HH:=zz (⟨hU,hT,hnn,hm,trivial,hls⟩:_∧_∧_∧_∧True∧_)
 rw [hnn] at hn HC hR ⊢
 rw [hm] at hnl hR HF ⊢
 clear hU hT hnn hm hls
 by_cases hnm:n=m
 case neg=>
  rw [if_pos (.inl hnm)] at hR
  subst hR
  have hb:((n:Int) != (m:Int))=true:=bne_iff_ne.2 (by omega)
  clear HC HF
  go_enter Tryz.func66,Tryz.ntmps66
  go_wp2_with fail
  go_ret2
  exact⟨_,rfl,[],tr_nil (Ext.refl _ _)⟩
 case pos=>
 subst hnm
 have hb:((n:Int) != (n:Int))=false:=bne_self_eq_false _
 cases hbad:names.any (fun s=>decide (nameN s≠0)) with
 | true=>
  rw [hbad] at HC
  rw [if_pos (.inr hbad)] at hR
  subst hR
  clear HF hbad
  go_enter Tryz.func66,Tryz.ntmps66
  go_wp2_with fail
  refine HC.out.mono ?_
  rintro ee w2 ⟨rfl,hx2⟩
  have HX2:=zz hx2
  clear hx2 HC
  go_wp2_with fail
  go_ret2
  exact⟨_,rfl,[],tr_nil (HX2.out)⟩
 | false=>
 rw [hbad] at HC
 rw [if_neg (by rw [hbad]; simp)] at hR
 have HBAD:=zz hbad
 obtain⟨f,hf⟩:∃ f,firstN ls=f:=⟨_,rfl⟩
 rw [hf] at hR HF
 have HFE:=zz hf
 clear hbad hf
 by_cases hf0:f=0
 case neg=>
  rw [if_pos hf0] at hR
  subst hR
  have hfb:(f != 0)=true:=bne_iff_ne.2 hf0
  clear hf0
  go_enter Tryz.func66,Tryz.ntmps66
  go_wp2_with fail
  refine HC.out.mono ?_
  rintro ee w2 ⟨rfl,hx2⟩
  have HX2:=zz hx2
  have HF2:=zz (HF.out w2 hx2)
  clear hx2 HC HF
  go_wp2_with fail
  refine HF2.out.mono ?_
  rintro ee w3 ⟨rfl,hx3⟩
  have HX3:=zz (HX2.out.trans hx3)
  clear hx3 HF2 HX2
  go_wp2_with fail
  go_ret2
  exact⟨_,rfl,[],tr_nil (HX3.out)⟩
 case pos=>
 subst hf0
 rw [if_neg (by simp)] at hR
 have HR:=zz hR
 clear hR
 go_enter Tryz.func66,Tryz.ntmps66
 go_wp2_with fail
 refine HC.out.mono ?_
 rintro ee w2 ⟨rfl,hx2⟩
 have HX2:=zz hx2
 have HF2:=zz (HF.out w2 hx2)
 clear hx2 HC HF
 go_wp2_with fail
 refine HF2.out.mono ?_
 rintro ee w3 ⟨rfl,hx3⟩
 have S:=((Sep.start w).quiet (HX2.out.trans hx3)).new (Ext.refl _ _) (oEt (.slice none 0 0) []) (World.ownsRow_nil _ _ _ _) (fun q hq=>by simp [oEt,oSl,Value.ownBlock] at hq)
 have HS:=zz S
 clear hx3 HF2 HX2 S
 go_wp2_with fail
 go_loopg [7,8,9,26] n (fun g ov v8 v9 iv wr=>∃ (i:Nat) (P:List (Et×List Nd)),g+i=n∧iv=.int .i64 i∧P.length=i∧P.map (fun p=>(p.1.1,p.2))=(names.zip ls).take i∧(∀ p∈P,NodesAt w (slC p.1.2) p.2)∧Sep w wr [oEt ov (P.map (·.1))])
 case atStart=>exact⟨0,[],by omega,rfl,rfl,rfl,by simp,HS.out⟩
 case round=>
  clear HS
  obtain⟨i,P,hgi,rfl,hP,hPm,hN,S⟩:=hrel
  have hr0:wr.ownsRow 0 125 2 u7 (P.map (·.1)).length (etC (P.map (·.1))):=S.get 0 rfl
  rw [List.length_map,hP] at hr0
  obtain⟨ao4,cap4,rfl⟩:=row_slice hr0
  by_cases hlt:i<n
  ·obtain⟨g,rfl⟩:∃ g,gk=g+1:=⟨gk - 1,by omega⟩
   have hltz:(i:Int)<(n:Int):=by omega
   have hil:i<names.length:=by rw [HH.out.2.2.1]; exact hlt
   have hil2:i<ls.length:=by rw [HH.out.2.2.2.1]; exact hlt
   obtain⟨b5,o5,rfl,c5⟩:=HH.out.1 i hil
   obtain⟨b6,o6,vk,rfl,c6,hNk⟩:=HH.out.2.1 i hil2
   obtain⟨xa,xc,rfl,hxc,hxN⟩:=hNk
   have c5:=S.ext.cell c5
   have c6:=S.ext.cell c6
   have hzl:i<(names.zip ls).length:=by rw [List.length_zip]; omega
   have htk:(names.zip ls).take (i+1)=(names.zip ls).take i++[(names[i]'hil,ls[i]'hil2)]:=by rw [List.take_succ_eq_append_getElem hzl,List.getElem_zip]
   obtain⟨X,hX⟩:∃ X,(ls[i]'hil2).length=X:=⟨_,rfl⟩
   have hNk:NodesAt w (.slice xa X xc) (ls[i]'hil2):=⟨_,_,by rw [hX],hxc,hxN⟩
   rw [hX] at c6
   generalize names[i]'hil=nm at *
   generalize ls[i]'hil2=xt at *
   have HX:=zz7 ⟨S,hP,hPm,hN,hr0,htk,hNk⟩
   clear S hP hPm hN hr0 htk hNk hxN hX hxc
   go_wp2_with (first | (at_builtin; refine wpList_append_lies _ rfl _ _ 122 rfl 0 125 i0 _ 2 40 Tryz.underlying122 hif hz0 hz1 hz2 rfl (by decide) (.slice ao4 i cap4) i _ rfl (World.ownsRow.alloc HX.out.2.2.2.2.1 _) ⟨wr.heap.size,0,none⟩ 1 1 [.string nm,.slice xa X xc] rfl rfl (cells_two _ _ _ _) (by simp [Value.oneCell']) (by decide) (by unfold maxLen; omega) (by omega) (by omega) (wr.heap.size+1) (by simp) ?_; intro g6 cap2 w6 hown1 hgrow hat6 hlt6))
   have Pl:=push_local (cap:=cap2) (n:=i+1) hgrow hat6
   have S2:=HX.out.1.upd 0 (oEt (.slice (some ⟨g6,0,none⟩) (i+1) cap2) ((P++[((nm,xa,X,xc),xt)]).map (·.1))) rfl Pl.1 Pl.2 (by
    show World.ownsRow _ 0 125 2 _ _ _
    rw [List.length_map,List.length_append,HX.out.2.1,List.map_append,etC_append]
    exact hown1)
   go_roundg g
   case measure=>omega
   case rel=>
    refine⟨i+1,P++[((nm,xa,X,xc),xt)],by omega,by go_num,by rw [List.length_append,HX.out.2.1]; rfl,by rw [List.map_append,HX.out.2.2.1,HX.out.2.2.2.2.2.1]; rfl,fun p hp=>?_,S2⟩
    rcases List.mem_append.1 hp with hp | hp
    ·exact HX.out.2.2.2.1 p hp
    ·obtain rfl:p=((nm,xa,X,xc),xt):=by simpa using hp
     exact HX.out.2.2.2.2.2.2
  ·obtain rfl:gk=0:=by omega
   obtain rfl:i=n:=by omega
   have hall:(names.zip ls).take i=names.zip ls:=List.take_of_length_le (by rw [List.length_zip,HH.out.2.2.1,HH.out.2.2.2.1]; omega)
   rw [hall] at hPm
   have hmemz:∀ p∈P,p.1.1∈names∧p.2∈ls:=fun p hp=>by
    have:(p.1.1,p.2)∈names.zip ls:=by rw [←hPm]; exact List.mem_map_of_mem (f:=fun p:Et×List Nd=>(p.1.1,p.2)) hp
    exact⟨(List.of_mem_zip this).1,(List.of_mem_zip this).2⟩
   have hD:=dict_new w wr _ 0 _ P S rfl (.inl (by omega)) (fun W o hS p hp=>(hN p hp).ext hS.ext) (fun p hp=>by
    obtain⟨h1,h2⟩:=hmemz p hp
    have hb2:=HBAD.out
    rw [List.any_eq_false] at hb2
    refine⟨name_small (by simpa using hb2 _ h1),by simpa using hb2 _ h1,firstN_zero HFE.out _ h2,(HH.out.2.2.2.2.2 _ h2).2⟩)
   rw [hPm,HR.out] at hD
   have HD:=zz hD
   clear hD S hPm hN hr0 hall hmemz
   go_wp2_with fail
   refine HD.out.mono ?_
   rintro ee w5 ⟨v5,rfl,F5,S5⟩
   have HF5:=zz (Sep.first S5)
   clear S5 HD
   go_wp2_with fail
   go_ret2
   exact⟨_,rfl,_,HF5.out⟩
end Tr
end Go.Proofs.YtljachhmdogkdaaGreatDoor
