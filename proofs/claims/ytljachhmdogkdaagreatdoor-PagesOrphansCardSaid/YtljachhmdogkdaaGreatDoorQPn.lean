/-
 Texts PgN, PgO, PgP, PgQ, PgR, PgS, PgLp, PgLq, as far as the statement needs them.
-/
import Derived.Test.YtljachhmdogkdaaGreatDoorQShC
import Derived.Test.YtljachhmdogkdaaGreatDoorQPj
import Derived.Shelf.SlMaps.Clone
import Derived.StringKeys
import Derived.TacticsInMore
import Derived.LoopIn
import Derived.Sort.LoopGhostIn
import Derived.BigFrameIn
import Derived.BigGuardIn
import Derived.Shelf.Slices.In.SortNone
import Derived.Sort.OwnSorted
set_option maxRecDepth 100000
set_option maxHeartbeats 64000000
namespace Go.Proofs.YtljachhmdogkdaaGreatDoor
namespace Pg
open Go.RowKit
open Tr
open Rc
theorem lawS:Maps.Keyed Tryz.prog 9:=Maps.string_keyed Tryz.underlying9
abbrev mkS:ByteArray→Value:=fun s=>.string s
theorem mkS_inj:∀ x y:ByteArray,mkS x=mkS y→x=y:=fun x y h=>by injection h
theorem keyS {s:ByteArray} (hs:s.size≤1000000):keyOf Tryz.prog 9 (mkS s)=some (.string s.data.toList):=Go.WideMaps.keyOf_string_mk Tryz.underlying9 (by unfold maxLen; omega)
abbrev strMap (w:World) (b n:Nat) (f:ByteArray→Option Value):Prop:=Mp.MapAt Tryz.prog 9 mkS w b n f
theorem cloneH_walk (b:Nat) (es:Array MapEntry) (clock:Nat) (w:World) (hb:w.heap[b]? = some (.map es clock)) :
  Calls Tryz.prog 95 #[.map (some b)] w fun e w'=>e=.returned (.map (some w.heap.size))∧w' = w.alloc (.map es clock):=by
 have hq:=fun w=>run_eql_map_nil_sl (P:=Tryz.prog) w 107 _ _ (some b) Tryz.underlying107
 go_enter Tryz.func95,Tryz.ntmps95
 go_wp2_with fail
 rw [run_callFunc_extern Tryz.func134 (by kernel_rfl) (by kernel_rfl) (by kernel_rfl) (e:=Extern.MapsClone.clone) (by kernel_rfl),run_maps_clone_sl w 107 hb]
 simp only [Result.andThen]
 rw [Oper.upon_value]
 go_wp2_with fail
 rw [run_typeAssert_map_sl _ 107 20 _ _ _ Tryz.underlying107]
 simp only [Result.andThen]
 rw [Oper.upon_value]
 go_wp2_with fail
 go_ret
 exact⟨rfl,rfl⟩
def oAny (F:List Nat) (Q:World→Prop):Ob where
 F:=F
 P:=fun w=>(∀ k∈F,k<w.heap.size)∧∀ w' : World,(∀ k∈F,w'.heap[k]? = w.heap[k]?)→Q w'
 ok:=fun h hx hS=>⟨fun k hk=>Nat.lt_of_lt_of_le (h.1 k hk) hx.size,fun w2 h2=>h.2 w2 (fun k hk=>(h2 k hk).trans (hx.block k (h.1 k hk) (hS k hk)))⟩
 lt:=fun h=>h.1
theorem oAny.now {F:List Nat} {Q:World→Prop} {w:World} (h:(oAny F Q).P w):Q w:=h.2 w (fun _ _=>rfl)
theorem oAny.imp {F:List Nat} {Q R:World→Prop} {w:World} (h:(oAny F Q).P w) (hi:∀ W,Q W→R W):(oAny F R).P w:=⟨h.1,fun w' hw=>hi _ (h.2 w' hw)⟩
theorem oAny.both {F G:List Nat} {Q R:World→Prop} {w:World} (h:(oAny F Q).P w) (k:(oAny G R).P w):(oAny (F++G) fun W=>Q W∧R W).P w:=
 ⟨fun q hq=>by
  rcases List.mem_append.1 hq with hq | hq
  ·exact h.1 q hq
  ·exact k.1 q hq,fun w' hw=>⟨h.2 w' (fun q hq=>hw q (List.mem_append_left _ hq)),k.2 w' (fun q hq=>hw q (List.mem_append_right _ hq))⟩⟩
theorem oAny.start (w:World) {Q:World→Prop} (h:∀ W,Q W):(oAny [] Q).P w:=⟨fun k hk=>(by cases hk),fun w' _=>h w'⟩
theorem mapAt_same {κ:Type} {P:Program} {k:TypeId} {mk:κ→Value} {w w' : World} {b n:Nat} {f:κ→Option Value} (h:Mp.MapAt P k mk w b n f) (he:w'.heap[b]? = w.heap[b]?):Mp.MapAt P k mk w' b n f:=by
 obtain⟨D,⟨es,clock,hb,rest⟩,hf⟩:=h
 exact⟨D,⟨es,clock,he.trans hb,rest⟩,hf⟩
theorem oMp.any {κ:Type} {P:Program} {k:TypeId} {mk:κ→Value} {w:World} {b n:Nat} {f:κ→Option Value} (h:(Mp.oMp P k mk b n f).P w):(oAny [b] fun W=>Mp.MapAt P k mk W b n f).P w:=
 ⟨(Mp.oMp P k mk b n f).lt h,fun w' hw=>mapAt_same h (hw b (by simp))⟩
theorem hclone {b n:Nat} {f:ByteArray→Option Value} {w:World} (h:strMap w b n f) :
  Calls Tryz.prog 95 #[.map (some b)] w fun e w'=>∃ b2,e=.returned (.map (some b2))∧Sep w w' [Mp.oMp Tryz.prog 9 mkS b2 n f]:=by
 obtain⟨D,⟨es,clock,hb,F,hs,hD⟩,hf⟩:=h
 refine (cloneH_walk b es clock w hb).mono fun e w' ⟨he,hw⟩=>?_
 subst hw
 refine⟨_,he,(Sep.start w).new ((Ext.refl [] w).alloc _) _ ⟨D,⟨es,clock,heap_alloc_at _,F,hs,hD⟩,hf⟩ (fun k hk=>?_)⟩
 obtain rfl:k=w.heap.size:=by simpa [Mp.oMp] using hk
 exact Nat.le_refl _
def kCrop:ByteArray:=⟨#[67,114,111,112,66,111,120]⟩
def kMedia:ByteArray:=⟨#[77,101,100,105,97,66,111,120]⟩
def kRes:ByteArray:=⟨#[82,101,115,111,117,114,99,101,115]⟩
def kRot:ByteArray:=⟨#[82,111,116,97,116,101]⟩
def names4:List ByteArray:=[kCrop,kMedia,kRes,kRot]
def nm4 (i:Nat):ByteArray:=names4.getD i ⟨#[]⟩
theorem names4_apart:∀ i,i<4→∀ s∈names4.take i,s≠nm4 i:=by decide
theorem names4_more:∀ i,i<4→names4.take (i+1)=names4.take i++[nm4 i]:=by decide
theorem names4_size:∀ s∈names4,s.size≤1000000:=by decide
theorem nm4_mem (i:Nat) (h:i<4):nm4 i∈names4:=by
 have h1:=names4_more i h
 exact List.mem_of_mem_take (by rw [h1]; simp:nm4 i∈names4.take (i+1))
def WithQ (l:List Nd) (names:List ByteArray) (f:ByteArray→Option Value) (W:World):Prop:=∀ s∈names,∀ t,getN l s=some t→∃ v,f s=some v∧NodesAt W v t
def WithF (l:List Nd) (names:List ByteArray) (f f2:ByteArray→Option Value):Prop:=∀ s,(s∈names∧(getN l s).isSome=true)∨f2 s=f s
theorem withH_walk (b n:Nat) (f:ByteArray→Option Value) (v:Value) (l:List Nd) (w:World) (h:strMap w b n f) (hv:NodesAt w v l) (hl:Lt l) (hn:n≤1000000) :
  Calls Tryz.prog 61 #[.map (some b),v] w fun e w'=>∃ b2 f2 F,e=.returned (.map (some b2))∧Sep w w' [Mp.oMp Tryz.prog 9 mkS b2 (n+4) f2,oAny F (WithQ l names4 f2)]∧WithF l names4 f f2:=by
 have HC:=zz (hclone h)
 have HV:=zz2 ⟨hv,hl⟩
 obtain⟨base,cap,rfl,-,-⟩:=hv
 obtain⟨m,hm⟩:∃ m,l.length=m:=⟨_,rfl⟩
 rw [hm] at HV ⊢
 clear h hl hm
 go_enter Tryz.func61,Tryz.ntmps61
 go_wp2_with fail
 refine HC.out.mono ?_
 rintro e w1 ⟨b2,rfl,S1⟩
 have HS1:=zz S1
 clear S1 HC
 go_wp2_with fail
 refine gen_world (fun w2 hw2=>?_)
 obtain⟨sb,hsb⟩:∃ sb,w1.heap.size=sb:=⟨_,rfl⟩
 rw [hsb]
 have hx2:Ext [] w1 w2:=by rw [←hw2]; exact (Ext.refl [] w1).alloc _
 have hcell:∀ i,i<4→w2.cell? ⟨sb,i,none⟩=some (.string (nm4 i)):=fun i hi=>by
  rw [←hw2,←hsb,cellOf (heap_alloc_at _)]
  match i,hi with
  | 0,_=>rfl
  | 1,_=>rfl
  | 2,_=>rfl
  | 3,_=>rfl
 have hne:sb≠b2:=by
  have h1:=(Mp.oMp Tryz.prog 9 mkS b2 n f).lt (HS1.out.get 0 rfl) b2 (by simp [Mp.oMp])
  omega
 have S2:Sep w w2 [Mp.oMp Tryz.prog 9 mkS b2 n f,oAny [] (WithQ l [] f)]:=(sep_cat ((Sep.start w).new (Ext.refl [] w) (oAny [] (WithQ l [] f)) (oAny.start w (fun W s hs=>by cases hs)) (fun k hk=>by cases hk)) HS1.out).quiet hx2
 have H2:=zz3 ⟨S2,hcell,hne⟩
 clear hw2 hx2 hcell hne S2 HS1 hsb
 go_loopg [7,8,9,14] 4 (fun g v7 v8 v9 iv wr=>∃ (i:Nat) (fi:ByteArray→Option Value) (F:List Nat),g+i=4∧iv=.int .i64 i∧WithF l (names4.take i) f fi∧Sep w wr [Mp.oMp Tryz.prog 9 mkS b2 (n+i) fi,oAny F (WithQ l (names4.take i) fi)]∧Ext [b2] w2 wr)
 case atStart=>exact⟨0,f,[],rfl,rfl,fun s=>.inr rfl,H2.out.1,Ext.refl _ _⟩
 case round=>
  obtain⟨i,fi,F,hgi,rfl,hWF,S,hx⟩:=hrel
  by_cases hlt:i<4
  case neg=>
   obtain rfl:gk=0:=by omega
   obtain rfl:i=4:=by omega
   have HF:=zz2 ⟨hWF,S⟩
   clear hWF S hx
   go_wp2_with fail
   go_ret
   exact⟨b2,rfl,fi,⟨F,HF.out.2⟩,HF.out.1⟩
  case pos=>
  obtain⟨g,rfl⟩:∃ g,gk=g+1:=⟨gk - 1,by omega⟩
  have hltz:(i:Int)<4:=by omega
  obtain⟨s,hs⟩:∃ s,nm4 i=s:=⟨_,rfl⟩
  have hc:=H2.out.2.1 i hlt
  rw [hs] at hc
  have hc:=(World.cell?_of_block (hx.block sb (World.block_lt_of_cell? w2 _ hc) (by simpa using H2.out.2.2))).trans hc
  have hG:=get_new (.slice base m cap) l s wr (HV.out.1.ext S.ext) HV.out.2
  have hsz:s.size≤1000000:=names4_size s (by rw [←hs]; exact nm4_mem i hlt)
  have hap:∀ q∈names4.take i,q≠s:=fun q hq=>by rw [←hs]; exact names4_apart i hlt q hq
  have hmo:names4.take (i+1)=names4.take i++[s]:=by rw [←hs]; exact names4_more i hlt
  have HG:=zz hG
  have HX:=zz6 ⟨hWF,S,hx,hsz,hap,hmo⟩
  clear hG hWF S hx hsz hap hmo hs
  go_wp2_with fail
  refine HG.out.mono ?_
  rintro e w3 ⟨v3,rfl,F3,S3⟩
  obtain⟨tb,tc,rfl⟩:=tree_slice (oTr.nodes (S3.get 0 rfl))
  have S4:=sep_cat HX.out.2.1 S3
  have hx4:=HX.out.2.2.1.trans (S3.ext.mono (by simp))
  clear HG hc
  cases hg:getN l s with
  | none=>
   rw [hg] at S4
   have hWF:WithF l (names4.take (i+1)) f fi:=fun q=>by
    rcases HX.out.1 q with h | h
    ·exact .inl ⟨by rw [HX.out.2.2.2.2.2]; exact List.mem_append_left _ h.1,h.2⟩
    ·exact .inr h
   have hQ:∀ W,WithQ l (names4.take i) fi W→WithQ l (names4.take (i+1)) fi W:=fun W hW q hq t ht=>by
    rw [HX.out.2.2.2.2.2] at hq
    rcases List.mem_append.1 hq with hq | hq
    ·exact hW q hq t ht
    ·obtain rfl:=List.mem_singleton.1 hq
     rw [hg] at ht
     cases ht
   have S5:=Tr.Sep.tail S4
   have S6:Sep w w3 [Mp.oMp Tryz.prog 9 mkS b2 (n+(i+1)) fi,oAny F (WithQ l (names4.take (i+1)) fi)]:=
    (S5.upd 0 (Mp.oMp Tryz.prog 9 mkS b2 (n+(i+1)) fi) rfl (Ext.refl _ _) (Fr.refl _ _) ((S5.get 0 rfl:strMap w3 b2 (n+i) fi).mono (by omega))).upd 1 (oAny F (WithQ l (names4.take (i+1)) fi)) rfl (Ext.refl _ _) (Fr.refl _ _) (oAny.imp (S5.get 1 rfl) hQ)
   have HZ:=zz3 ⟨hWF,S6,hx4⟩
   clear hWF hQ S5 S6 hx4 S4 S3 hg
   go_wp2_with fail
   go_roundg g
   case measure=>omega
   case rel=>exact⟨i+1,fi,F,by omega,by go_num,HZ.out.1,HZ.out.2.1,HZ.out.2.2⟩
  | some t=>
   rw [hg] at S4
   simp only [Option.getD_some] at S4
   have hM:strMap w3 b2 (n+i) fi:=S4.get 1 rfl
   have HZ:=zz4 ⟨S4,hM,hx4,hg⟩
   clear S4 hM hx4 S3 hg
   go_wp2_with (first | (at_mapUpdate; refine Mp.wpList_store_mp rfl _ _ _ 107 rfl 31 lawS mkS_inj Tryz.underlying107 rfl HZ.out.2.1 (by unfold maxLen; omega) s (.slice tb t.length tc) (.string s.data.toList) rfl rfl (keyS HX.out.2.2.2.1) ?_; intro w5 hm5 hx5; have S5:=HZ.out.1.upd 1 (Mp.oMp Tryz.prog 9 mkS b2 (n+i+1) (fun q=>if q=s then some (.slice tb t.length tc) else fi q)) rfl hx5 (Fr.refl _ _) hm5; have HS5:=zz2 ⟨S5,HZ.out.2.2.1.trans hx5⟩; clear S5 hm5 hx5))
   have S6:Sep w w5 [oTr F3 (.slice tb t.length tc) t,Mp.oMp Tryz.prog 9 mkS b2 (n+i+1) (fun q=>if q=s then some (.slice tb t.length tc) else fi q),oAny F (WithQ l (names4.take i) fi)]:=HS5.out.1
   have hT:(oAny F3 (fun W=>NodesAt W (.slice tb t.length tc) t)).P w5:=S6.get 0 rfl
   have hQ0:=S6.get 2 rfl
   have S7:=Tr.Sep.glue (j:=1) S6 rfl (oAny (F3++F) (WithQ l (names4.take (i+1)) (fun q=>if q=s then some (.slice tb t.length tc) else fi q))) (fun k hk=>by
    rcases List.mem_append.1 hk with hk | hk
    ·exact .inl hk
    ·exact .inr hk) (oAny.imp (oAny.both hT hQ0) (fun W hW q hq u hu=>by
    rw [HX.out.2.2.2.2.2] at hq
    rcases List.mem_append.1 hq with hq | hq
    ·obtain⟨v,h1,h2⟩:=hW.2 q hq u hu
     exact⟨v,by dsimp only; rw [if_neg (HX.out.2.2.2.2.1 q hq)]; exact h1,h2⟩
    ·obtain rfl:=List.mem_singleton.1 hq
     rw [HZ.out.2.2.2] at hu
     obtain rfl:=Option.some.inj hu
     exact⟨_,if_pos rfl,hW.1⟩))
   have hWF:WithF l (names4.take (i+1)) f (fun q=>if q=s then some (.slice tb t.length tc) else fi q):=fun q=>by
    by_cases hqs:q=s
    ·exact .inl ⟨by rw [HX.out.2.2.2.2.2,hqs]; simp,by rw [hqs,HZ.out.2.2.2]; rfl⟩
    ·rcases HX.out.1 q with h | h
     ·exact .inl ⟨by rw [HX.out.2.2.2.2.2]; exact List.mem_append_left _ h.1,h.2⟩
     ·exact .inr (by dsimp only; rw [if_neg hqs]; exact h)
   have hx9:=HS5.out.2
   go_roundg g
   case measure=>omega
   case rel=>exact⟨i+1,_,_,by omega,by go_num,hWF,S7,hx9⟩
attribute [local go_sem] Oper.semAt_some
abbrev encS1 (r:ByteArray):Array Value:=#[mkS r]
theorem invS (key:Value) (kl:Lit) (h:keyOf Tryz.prog 9 key=some kl):∃ r:ByteArray,key=mkS r:=by
 obtain⟨s,h1,-⟩:=Go.WideMaps.string_of_keyOf Tryz.underlying9 h
 exact⟨s,h1⟩
def NxF {κ:Type} (f:κ→Option Value) (pre:List κ) (x:κ):Prop:=(f x).isSome=true∧x∉pre
def DnF {κ:Type} (P:Program) (k:TypeId) (mk:κ→Value) (f:κ→Option Value) (xs:List κ):Prop:=∀ x kl,keyOf P k (mk x)=some kl→(f x).isSome=true→x∈xs
theorem chn_nodup {κ:Type} {f:κ→Option Value}:∀ {l:List κ},Chn (NxF f) l→l.Nodup∧∀ x∈l,(f x).isSome=true:=by
 intro l h
 refine⟨List.pairwise_iff_getElem.2 fun i j hi hj hij e=>?_,fun x hx=>?_⟩
 ·have h1:=h (l.take j) (l[j]'hj) (l.drop (j+1)) (by rw [←List.drop_eq_getElem_cons hj,List.take_append_drop])
  refine h1.2 ?_
  rw [←e]
  exact List.mem_take_iff_getElem.2 ⟨i,by omega,rfl⟩
 ·obtain⟨a,b,rfl⟩:=List.append_of_mem hx
  exact (h a x b rfl).1
theorem chn_perm {κ:Type} {P:Program} {k:TypeId} {mk:κ→Value} {f:κ→Option Value} {E ys:List κ} (h:Chn (NxF f) ys) (hd:DnF P k mk f ys) (hE:E.Nodup) (hm:∀ x,(f x).isSome=true↔x∈E) (hk:∀ x∈E,∃ kl,keyOf P k (mk x)=some kl):E.Perm ys:=by
 obtain⟨h1,h2⟩:=chn_nodup h
 refine (List.perm_ext_iff_of_nodup hE h1).2 fun x=>⟨fun hx=>?_,fun hx=>(hm x).1 (h2 x hx)⟩
 obtain⟨kl,hkl⟩:=hk x hx
 exact hd x kl hkl ((hm x).2 hx)
theorem keysH_walk (mb:Nat) (w:World) :
  Calls Tryz.prog 94 #[.map (some mb)] w fun e w'=>e=.returned (.func (.func 133) #[] #[.pointer (some ⟨w.heap.size,0,none⟩)])∧w' = w.alloc (.cells #[.map (some mb)] 107):=by
 go_enter Tryz.func94,Tryz.ntmps94
 go_wp2_with fail
 go_ret
 exact⟨rfl,rfl⟩
theorem keysH_iter (mb mn cb:Nat) (f:ByteArray→Option Value) :
  SeqM Tryz.prog 133 #[.pointer (some ⟨cb,0,none⟩)] encS1 (NxF f) (DnF Tryz.prog 9 mkS f) (fun n=>[n]) [mb]
   (fun W=>W.heap[cb]? = some (.cells #[.map (some mb)] 107 (0,0))∧Mp.MapAt Tryz.prog 9 mkS W mb mn f):=by
 intro l J Jx W hb hJ hJx hY h0
 obtain⟨hb1,hb2⟩:=hb
 obtain⟨p,hp⟩:∃ p,W.heap.size=p:=⟨_,rfl⟩
 rw [hp] at hJ hJx hY
 have hmp:mb<p:=by rw [←hp]; exact hb2.lt
 have H0:=zz h0
 have HY:=zz hY
 have HJ:=zz hJ
 have HM:=zz hb2
 have c0:=cellOf hb1 0
 have HP:=zz2 ⟨hp,hmp⟩
 clear h0 hY hJ hJx hb1 hb2 hp hmp
 refine callsIn_of_wp Tryz.func133 rfl trivial ?_
 simp only [Tryz.ntmps133,List.size_toArray,List.length_cons,List.length_nil,Nat.reduceAdd,Nat.reduceSub,Array.replicate_succ,Array.replicate_zero,List.push_toArray,List.append_toArray,List.nil_append,List.cons_append]
 refine wpIn_seq ?_
 refine (wpIn_wide (n:=0)).2 ?_
 go_wp2_with (first | (at_range; refine Mp.wpList_range_mp rfl _ 107 rfl 31 lawS Tryz.underlying107 rfl HM.out ?_; intro w3 cnt hrg hx3 hsz3))
 rw [HP.out.1] at hrg ⊢
 have HR0:=zz2 ⟨hrg,HJ.out [] W w3 H0.out hx3.weak⟩
 clear hrg hx3 hsz3 c0
 refine wpIn_block ?_
 gi_loopg [3] cnt (fun k v3 wr=>∃ (pre:List ByteArray) (left:ByteArray→Bool) (c:Nat),c≤k∧Mp.RangeAt Tryz.prog 9 mkS wr mb p mn f left c∧J pre wr∧(∀ x,left x=true→x∉pre)∧(∀ x,(f x).isSome=true→x∈pre∨left x=true))
 case atStart=>exact⟨[],fun x=>(f x).isSome,cnt,Nat.le_refl _,HR0.out.1,HR0.out.2,fun x _ h=>(by cases h),fun x h=>.inr h⟩
 case round=>
  clear HR0
  obtain⟨pre,left,c,hck,hrg,hj,hl1,hl2⟩:=hrel
  have HRG:=zz4 ⟨hrg,hj,hl1,hl2⟩
  clear hrg hj hl1 hl2
  refine wpIn_seq ?_
  refine (wpIn_wide (n:=0)).2 ?_
  go_wp2_with (first | (at_next; refine Mp.wpList_next_mp rfl _ rfl lawS mkS_inj invS rfl HRG.out.1 ?_ ?_))
  ·intro hc0 hl0
   have HE:=zz hl0
   clear hl0
   go_wp2_with fail
   gi_wp2_with fail
   go_end0
   refine⟨⟨_,rfl⟩,.inl ⟨pre,fun x kl hk hx=>?_,HRG.out.2.1⟩⟩
   rcases HRG.out.2.2.2 x hx with h | h
   ·exact h
   ·rw [HE.out x kl hk] at h; cases h
  ·intro r1 kl v w5 c' hk hlr hfr hrg hlt hx5 hen
   obtain⟨g,rfl⟩:∃ g,gk=g+1:=⟨gk - 1,by omega⟩
   have HE:=zz4 ⟨hlr,hfr,hrg,HJ.out _ _ _ HRG.out.2.1 hx5⟩
   clear hlr hfr hrg hx5 hk
   go_wp2_with fail
   have hnx:NxF f pre r1:=⟨by rw [HE.out.2.1]; rfl,HRG.out.2.2.1 _ HE.out.1⟩
   have hp5:p<w5.heap.size:=HE.out.2.2.1.lt
   have hx6:Ext [] w5 w5:=Ext.refl [] w5
   have hm5:mb<w5.heap.size:=HE.out.2.2.1.map.lt
   have e1:=hx6.block p hp5 (by simp)
   have e2:=hx6.block mb hm5 (by simp)
   obtain⟨fn,tmps,assign,body,hy,hR⟩:=HY.out pre r1 w5 hnx (fun k hk=>by obtain rfl:=List.mem_singleton.1 hk; exact Nat.lt_of_lt_of_le hp5 hx6.size) (HJ.out _ _ _ HE.out.2.2.2 hx6.weak)
   have HR:=zz4 ⟨hR,hnx,e1,e2⟩
   clear hR hnx hx6 e1 e2 hp5 hm5
   gi_wp2_with fail
   refine HR.out.1.mono ?_
   clear hy hen
   rintro e w7 (⟨rfl,hj3,hk3⟩ | ⟨rfl,hj3⟩)
   ·have HJ3:=zz2 ⟨hj3,HE.out.2.2.1.same (hk3.same mb (by simp)) (hk3.same p (by simp))⟩
    clear hj3 hk3
    gi_wp2_with fail
    gi_roundg g
    case measure=>omega
    case rel=>
     refine⟨pre++[r1],_,c',by omega,HJ3.out.2,HJ3.out.1,fun x hx hm=>?_,fun x hx=>?_⟩
     ·simp at hx
      rcases List.mem_append.1 hm with hm | hm
      ·exact HRG.out.2.2.1 x hx.1 hm
      ·exact hx.2 (List.mem_singleton.1 hm)
     ·by_cases he:x=r1
      ·exact .inl (by rw [he]; simp)
      ·rcases HRG.out.2.2.2 x hx with h | h
       ·exact .inl (List.mem_append_left _ h)
       ·exact .inr (by simp [h,he])
   ·have HJ3:=zz hj3
    clear hj3
    gi_wp2_with fail
    refine bodyPost_ret (results_none rfl _ _ _) rfl ?_
    exact⟨⟨_,rfl⟩,.inr ⟨pre,r1,HR.out.2.1,HJ3.out⟩⟩
theorem stC_append (a b:List ByteArray):stC (a++b)=stC a++stC b:=by simp [stC]
theorem appS_walk {gf:Nat} {lb:Array Value} {Nx:List (ByteArray)→(ByteArray)→Prop} {Dn:List (ByteArray)→Prop} {Kb:List Nat} {St:World→Prop} (w0 w:World) (sv:Value) (n:Nat) (xs:List Value) (M:List Ob)
  (S:Sep w0 w (oSl 9 1 sv n xs::M)) (hseq:SeqM Tryz.prog gf lb (fun x:ByteArray=>#[mkS x]) Nx Dn (fun n=>[n]) Kb St) (eg:∀ args w,(callFunc gf args).run Tryz.prog w=.ok (.enter gf args) w) (hKb:∀ k∈Kb,∃ o∈M,k∈o.F)
  (hSt:∀ W,Ext [] w W→St W) (hn:∀ pre,Chn Nx pre→n+pre.length≤1000000) :
  Calls Tryz.prog 153 #[sv,.func (.func gf) #[] lb] w fun e w'=>∃ v2 ys,e=.returned v2∧Chn Nx ys∧Dn ys∧Sep w0 w' (oSl 9 1 v2 (n+ys.length) (xs++stC ys)::M):=by
 obtain⟨j0,hjf,hy0,hy1,hy2⟩:=info_parts infoString17
 have hr0:w.ownsRow 0 9 1 sv n xs:=S.get 0 rfl
 obtain⟨sb,sc,rfl⟩:=row_slice hr0
 have HS:=zz6 ⟨S,hn,hSt,hseq,eg,hKb⟩
 have S1:=S.var (T:=55) ((Ext.refl [] w).alloc (.cells #[.slice sb n sc] 55)) (heap_alloc_at _) (Nat.le_refl _)
 have HV:=zz2 ⟨S1,hr0⟩
 clear S S1 hr0 hn hSt hseq eg hKb
 refine (callsIn_wide (n:=0)).1 (callsIn_of_wp_marks Tryz.func153 rfl trivial ((wpIn_wide (n:=0)).2 ?_))
 simp only [Tryz.ntmps153,List.size_toArray,List.length_cons,List.length_nil,Nat.reduceAdd,Nat.reduceSub,Array.replicate_succ,Array.replicate_zero,List.push_toArray,List.append_toArray,List.nil_append,List.cons_append]
 go_wp2_with fail
 refine wp_rangeM (gf:=gf) (lb:=lb) rfl HS.out.2.2.2.2.1 HS.out.2.2.2.1 (fun _=>rfl)
  (w.heap.size+1) (w.heap.size+2) (by simp) (by simp) [w.heap.size+3] (by simp) (by simp) (fun k hk=>by
   obtain⟨o,ho,hko⟩:=HS.out.2.2.2.2.2 k hk
   have:=o.lt (HS.out.1.each o (List.mem_cons_of_mem _ ho)) k hko
   simp; omega) (fun W hx=>HS.out.2.2.1 W (((Ext.refl [] w).alloc _).trans hx))
  (fun pre W=>Chn Nx pre∧∃ F,Sep w0 W (oVar 9 55 1 w.heap.size F (n+pre.length) (xs++stC pre)::M)∧∀ o∈oVar 9 55 1 w.heap.size F (n+pre.length) (xs++stC pre)::M,∀ q∈o.F,q≠w.heap.size+1∧q≠w.heap.size+2∧q≠w.heap.size+3) (fun _ _ _=>False)
  (fun pre A B h hx=>by
   obtain⟨hc,F,S,hf⟩:=h
   refine⟨hc,F,S.extra hx (fun q hq=>⟨?_,fun o ho hqo=>?_⟩),hf⟩
   ·have:=HS.out.1.ext.size
    simp at hq; omega
   ·have:=hf o ho q hqo
    simp at hq; omega)
  (fun _ _ _ _ h _=>h)
  (fun W hx hw=>by
   refine⟨Chn.nil _,_,(by
    show Sep w0 W (oVar 9 55 1 w.heap.size _ n (xs++[])::M)
    rw [List.append_nil]
    exact HV.out.1.quiet hx),fun o ho q hq=>?_⟩
   have hlt:q<w.heap.size+1:=by
    rcases List.mem_cons.1 ho with rfl | ho
    ·rcases List.mem_cons.1 hq with rfl | hq
     ·omega
     ·have:=(HV.out.2.lt q (by simpa using hq)).2; omega
    ·have:=o.lt (HS.out.1.each o (List.mem_cons_of_mem _ ho)) q hq; omega
   omega) ?round ?done ?stop
 case stop=>exact fun _ _ _ _ _ h _=>h.elim
 case round=>
  rintro pre x W hnx hts ⟨hc,F,S,hf⟩ hlt
  have hts3:w.heap.size+3<W.heap.size:=hts _ (by simp)
  have hnb:=HS.out.2.1 _ (hc.snoc hnx)
  rw [List.length_append,List.length_singleton] at hnb
  have HR:=zz4 ⟨hc,S,hf,hnx⟩
  clear hc S hf hnx hts
  gi_wp2_with fail
  refine⟨Ext.refl _ _,fun o=>?_⟩
  obtain⟨XW,hXW⟩:∃ XW,W=XW:=⟨_,rfl⟩
  have hxa:Ext [] W XW:=by rw [←hXW]; exact Ext.refl [] W
  simp only [hXW]
  obtain⟨L,hL⟩:∃ L,w.heap.size+2=L:=⟨_,rfl⟩
  rw [hL] at hlt
  simp only [hL]
  obtain⟨V,hV⟩:∃ V,XW.putObj L o=V:=⟨_,rfl⟩
  have hxv:Ext [L] XW V:=by rw [←hV]; exact Ext.putObj _ _ _
  rw [hV]
  have SV:=(HR.out.2.1.quiet hxa).extra hxv (fun q hq=>by
   obtain rfl:=List.mem_singleton.1 hq
   exact⟨by have:=HS.out.1.ext.size; omega,fun o ho hqo=>by have:=HR.out.2.2.1 o ho _ hqo; omega⟩)
  obtain⟨v,hvb,hvr,hvF,hvn⟩:=(SV.get 0 rfl:(oVar 9 55 1 w.heap.size F (n+pre.length) (xs++stC pre)).P V)
  obtain⟨vb,vc,rfl⟩:=row_slice hvr
  have hVs:W.heap.size≤V.heap.size:=Nat.le_trans hxa.size hxv.size
  have a0:=cellOf hvb 0
  have f0:=freeOf hvb 0
  obtain⟨pl,hpl⟩:∃ pl,n+pre.length=pl:=⟨_,rfl⟩
  obtain⟨PR,hPR⟩:∃ PR,xs++stC pre=PR:=⟨_,rfl⟩
  rw [hpl] at SV hvb hvr hvF hvn a0
  rw [hPR] at SV hvr
  have hplb:pl+1≤1000000:=by omega
  have HK:=zz11 ⟨SV,hvb,hvr,hvF,hvn,hpl,hL,hts3,hVs,hlt,hPR⟩
  clear SV hvb hvr hvF hvn hpl hL hts3 hVs hlt hxa hxv hV hXW hnb hPR
  gi_wp2_with (refine wpListIn_hid (fun⟨_,_,h⟩=>h) rfl ?_)
  refine zz ?_
  go_wp2_with (first | (at_builtin; refine wpList_append_lies _ rfl _ _ 55 rfl 0 9 j0 _ 1 16 Tryz.underlying55 hjf hy0 hy1 hy2 rfl (by decide) (.slice vb pl vc) pl _ rfl (World.ownsRow.alloc HK.out.2.2.1 _) ⟨V.heap.size,0,none⟩ 1 1 [.string x] rfl rfl (World.news_of_block (heap_alloc_at (w:=V) _)) (by simp [Value.oneCell']) (by decide) (by unfold maxLen; omega) (by omega) (by omega) (V.heap.size+1) (by simp) ?_; intro g6 cap2 w9 hown1 hgrow hat6 hlt6; have hb9:=grown_keep hgrow (heap_alloc_old _ HK.out.2.1) HK.out.2.2.2.2.1; have e9:=cellOf hb9 0; have f9:=freeOf hb9 0; have HG:=zz3 ⟨hown1,hgrow,hat6⟩; clear hown1 hgrow hat6 hlt6 hb9 a0 f0))
  gi_wp2_with fail
  obtain⟨hP1,hP2,hP3⟩:=Sep.push HK.out.1 HK.out.2.1 HK.out.2.2.2.1 HK.out.2.2.2.2.1 HG.out.1 HG.out.2.1 HG.out.2.2
  obtain⟨-,-,-,-,-,hpl,hL,hts3,hVs,hlt,hPR⟩:=HK.out
  have hF0:∀ q∈F,q≠w.heap.size+1∧q≠w.heap.size+2∧q≠w.heap.size+3:=fun q hq=>HR.out.2.2.1 _ (List.mem_cons_self ..) q hq
  have hlen:n+(pre++[x]).length=pl+1:=by rw [List.length_append,List.length_singleton]; omega
  have hrow:xs++stC (pre++[x])=PR++[.string x]:=by rw [stC_append,←List.append_assoc,hPR]; rfl
  refine⟨KeepsT.of_ext hP2 (fun q hq=>?_),HR.out.1.snoc HR.out.2.2.2,[w.heap.size,g6],by rw [hlen,hrow]; exact hP1,?_⟩
  ·simp only [List.mem_cons,List.cons_append,List.nil_append] at hq
   have hq2:q=w.heap.size+1∨q=L∨q=w.heap.size+3∨q∈Kb:=by rcases hq with h | h | h | h <;> simp [h]
   rcases hq2 with rfl | rfl | rfl | hq
   ·exact⟨by omega,fun h=>(hF0 _ h).1 rfl⟩
   ·exact⟨by omega,fun h=>(hF0 _ h).2.1 hL.symm⟩
   ·exact⟨by omega,fun h=>(hF0 _ h).2.2 rfl⟩
   ·obtain⟨ob,hob,hqo⟩:=HS.out.2.2.2.2.2 q hq
    obtain⟨j,hj⟩:=List.getElem?_of_mem hob
    exact⟨ob.lt (HK.out.1.each ob (List.mem_cons_of_mem _ hob)) q hqo,fun h=>HK.out.1.apart 0 (j+1) _ _ rfl hj (by omega) q h hqo⟩
  ·intro ob hob q hq
   rcases List.mem_cons.1 hob with rfl | hob
   ·rcases List.mem_cons.1 hq with rfl | hq
    ·omega
    ·obtain rfl:=List.mem_singleton.1 hq
     rcases hP3 q (by simp) with h | h
     ·have:=hF0 q h; omega
     ·omega
   ·have:=HR.out.2.2.1 ob (List.mem_cons_of_mem _ hob) q hq; omega
 case done=>
  rintro ys W hdn ⟨hc,F,S,hf⟩ hD
  obtain⟨v,hvb,hvr,hvF,hvn⟩:=(S.get 0 rfl:(oVar 9 55 1 w.heap.size F (n+ys.length) (xs++stC ys)).P W)
  have hfin:=S.unvar hvb
  obtain⟨vb,vc,rfl⟩:=row_slice hvr
  have a0:=cellOf hvb 0
  have HF:=zz6 ⟨hfin,hdn,hc,hf,hD,hvF⟩
  clear hfin hdn hc S hf hD hvb hvr hvF hvn
  go_wp2_with fail
  refine⟨by simp,.inl ⟨_,_,rfl,run_takeDeferred HF.out.2.2.2.2.1,?_⟩⟩
  refine⟨_,results_tmp rfl _ _ _,?_⟩
  refine⟨_,ys,rfl,HF.out.2.2.1,HF.out.2.1,HF.out.1.extra (Ext.putObj _ _ _) (fun q hq=>?_)⟩
  obtain rfl:=List.mem_singleton.1 hq
  refine⟨by have:=HS.out.1.ext.size; omega,fun o ho hqo=>?_⟩
  rcases List.mem_cons.1 ho with rfl | ho
  ·exact (HF.out.2.2.2.1 _ (List.mem_cons_self ..) _ (by rw [show (oVar 9 55 1 w.heap.size F (n+ys.length) (xs++stC ys)).F=F from rfl,HF.out.2.2.2.2.2]; exact List.mem_cons_of_mem _ hqo)).1 rfl
  ·exact (HF.out.2.2.2.1 o (List.mem_cons_of_mem _ ho) _ hqo).1 rfl
abbrev toL (s:ByteArray):List UInt8:=s.data.toList
theorem stC_enc (l:List ByteArray):stC l=(l.map toL).map Go.Proofs.encStr:=by
 rw [stC,List.map_map]
 exact List.map_congr_left fun s _=>rfl
theorem sorted_strs {l E:List ByteArray} (hp:E.Perm l) (hs:E.Pairwise fun x y=>toL x≤toL y):(l.map toL).mergeSort (fun x y=>decide (x≤y))=E.map toL:=by
 refine List.Perm.eq_of_pairwise (le:=fun x y=>x≤y) (fun a b _ _ h1 h2=>List.le_antisymm h1 h2) ?_ ?_ ?_
 ·have:=List.pairwise_mergeSort (le:=fun x y:List UInt8=>decide (x≤y)) (fun a b c h1 h2=>decide_eq_true (List.le_trans (of_decide_eq_true h1) (of_decide_eq_true h2))) (fun a b=>by
   rcases List.le_total a b with h | h
   ·simp [h]
   ·simp [h]) (l.map toL)
  exact this.imp (fun h=>of_decide_eq_true h)
 ·rw [List.pairwise_map]; exact hs
 ·exact (List.mergeSort_perm _ _).trans (hp.symm.map toL)
theorem sortS (l E:List ByteArray) (v:Value) (w:World) (h:w.ownsRow 0 9 1 v l.length (stC l)) (hp:E.Perm l) (hs:E.Pairwise fun x y=>toL x≤toL y) (hn:l.length≤1048576) :
  Calls Tryz.prog 132 #[v] w fun e w'=>e=.returned (.tuple #[])∧Ext v.ownBlock.toList w w'∧w'.ownsRow 0 9 1 v E.length (stC E):=by
 have hlen:E.length=l.length:=hp.length_eq
 have hsort:=sorted_strs hp hs
 rcases h.2 with ⟨rfl,h0⟩ | ⟨g,cap,cur,rfl,hbase,hb,h1,h2,h3,h4⟩
 ·have hl0:l.length=0:=h0
  have hE:E=[]:=List.length_eq_zero_iff.1 (by rw [hlen]; exact hl0)
  subst hE
  refine (Any.slices_Sort_string_none Tryz.lays190 none 0 w).mono ?_
  rintro e w' ⟨rfl,rfl⟩
  exact⟨rfl,Ext.refl _ _,World.ownsRow_nil _ _ _ _⟩
 ·have hcon:=Tryz.slices_Sort_string g 0 cap (l.map toL) w (holds_of_block hb (by rw [List.length_map,←stC_enc]; simpa using h4)) (Array.getElem?_eq_some_iff.1 hb).1 (by rw [List.length_map]; omega)
  rw [List.length_map] at hcon
  refine hcon.mono ?_
  rintro e w' ⟨rfl,n,os,rfl⟩
  rw [hsort]
  refine⟨rfl,?_,?_⟩
  ·have:=(Ext.refl [g] w).grown (grownBy_sorted (n:=n) (os:=os) (w:=w) (g:=g) (E.map toL).toArray) (fun k hk=>.inl (by cases hk; simp))
   simpa [Value.ownBlock] using this
  ·have:=ownsRow_sorted (ss:=l.map toL) (ts:=E.map toL) (n:=n) (os:=os) (by simp [hlen]) hbase hb (by simpa using h1) h2 h3
   rw [List.length_map,←stC_enc] at this
   rw [hlen]
   exact this
theorem names4_sorted:names4.Pairwise fun x y=>toL x≤toL y:=by decide
def hdE (f:ByteArray→Option Value):List ByteArray:=names4.filter fun s=>(f s).isSome
def Hd4 (f:ByteArray→Option Value):Prop:=∀ s,(f s).isSome=true→s∈names4
def wNone (w:World):World:={ w with heap:=#[]}
def wAll (w:World):Ob:=oAny (List.range w.heap.size) fun W=>∀ k,k<w.heap.size→W.heap[k]? = w.heap[k]?
theorem all_start (w:World):Sep (wNone w) w [wAll w]:=by
 refine⟨⟨rfl,rfl,rfl,Nat.zero_le _,fun k hk=>absurd hk (Nat.not_lt_zero k)⟩,fun o ho=>?_,fun o ho k _=>Nat.zero_le k,fun i j a b hi hj hij=>?_⟩
 ·obtain rfl:=List.mem_singleton.1 ho
  exact⟨fun k hk=>List.mem_range.1 hk,fun w' hw k hk=>hw k (List.mem_range.2 hk)⟩
 ·have h1:=(List.getElem?_eq_some_iff.1 hi).1
  have h2:=(List.getElem?_eq_some_iff.1 hj).1
  simp at h1 h2
  omega
theorem all_end {w w' : World} {o:Ob} (S:Sep (wNone w) w' [o,wAll w]):Sep w w' [o]:=by
 have h1:(wAll w).P w':=S.get 1 rfl
 have hx:Ext [] w w':=⟨S.ext.os,S.ext.tape,S.ext.output,by
  rcases Nat.eq_zero_or_pos w.heap.size with h | h
  ·omega
  ·have:=h1.1 (w.heap.size - 1) (List.mem_range.2 (by omega)); omega,fun k hk _=>oAny.now h1 k hk⟩
 refine⟨hx,fun a ha=>?_,fun a ha k hk=>?_,fun i j a b hi hj hij=>?_⟩
 ·obtain rfl:=List.mem_singleton.1 ha
  exact S.get 0 rfl
 ·obtain rfl:=List.mem_singleton.1 ha
  have:=S.apart 0 1 _ _ rfl rfl (by omega) k hk
  exact Nat.le_of_not_lt fun h=>this (List.mem_range.2 h)
 ·have h1:=(List.getElem?_eq_some_iff.1 hi).1
  have h2:=(List.getElem?_eq_some_iff.1 hj).1
  simp at h1 h2
  omega
theorem collectS_walk (mb mn cb:Nat) (f:ByteArray→Option Value) (w:World) (hb:w.heap[cb]? = some (.cells #[.map (some mb)] 107 (0,0))) (hM:strMap w mb mn f) (hf:Hd4 f) :
  Calls Tryz.prog 131 #[.func (.func 133) #[] #[.pointer (some ⟨cb,0,none⟩)]] w fun e w'=>∃ v2 ys,e=.returned v2∧(hdE f).Perm ys∧Sep w w' [oSl 9 1 v2 ys.length (stC ys)]:=by
 have eg:∀ args w,(callFunc 133 args).run Tryz.prog w=.ok (.enter 133 args) w:=enters_of Tryz.func133 (by kernel_rfl) rfl
 have hmb:=hM.lt
 have S0:Sep (wNone w) w [oSl 9 1 (.slice none 0 0) 0 [],wAll w]:=(all_start w).new (Ext.refl _ _) _ (World.ownsRow_nil _ _ _ _) (fun q hq=>by simp [oSl,Value.ownBlock] at hq)
 have hnx:∀ pre,Chn (NxF f) pre→0+pre.length≤1000000:=fun pre hp=>by
  obtain⟨h1,h2⟩:=chn_nodup hp
  have:=List.Nodup.length_le_of_subset (l₂:=names4) h1 (fun x hx=>hf x (h2 x hx))
  have h4:names4.length=4:=by decide
  omega
 have HC:=zz (appS_walk (wNone w) w (.slice none 0 0) 0 [] [wAll w] S0 (keysH_iter mb mn cb f) eg (fun k hk=>by obtain rfl:=List.mem_singleton.1 hk; exact⟨_,List.mem_singleton.2 rfl,List.mem_range.2 hmb⟩) (fun W hx=>⟨hx.keep hb (by simp),hM.ext hx (by simp)⟩) hnx)
 clear S0 hmb hnx hb hM eg
 go_enter Tryz.func131,Tryz.ntmps131
 go_wp2_with fail
 refine HC.out.mono ?_
 rintro e w1 ⟨v2,ys,rfl,hch,hdn,S⟩
 have hpm:=chn_perm hch hdn (E:=hdE f) (List.Pairwise.filter _ (by decide:names4.Nodup)) (fun x=>by
  rw [hdE,List.mem_filter]
  exact⟨fun h=>⟨hf x h,h⟩,fun h=>h.2⟩) (fun x hx=>⟨_,keyS (names4_size x (List.mem_filter.1 hx).1)⟩)
 rw [Nat.zero_add,List.nil_append] at S
 have HF:=zz2 ⟨hpm,all_end S⟩
 clear S hpm hch hdn HC
 go_wp2_with fail
 go_ret
 exact⟨_,_,rfl,HF.out.1,HF.out.2⟩
theorem hdE_sorted (f:ByteArray→Option Value):(hdE f).Pairwise fun x y=>toL x≤toL y:=List.Pairwise.filter _ names4_sorted
theorem hdE_len (f:ByteArray→Option Value):(hdE f).length≤4:=Nat.le_trans (List.length_filter_le _ _) (by decide)
theorem sortedS_walk (mb mn cb:Nat) (f:ByteArray→Option Value) (w:World) (hb:w.heap[cb]? = some (.cells #[.map (some mb)] 107 (0,0))) (hM:strMap w mb mn f) (hf:Hd4 f) :
  Calls Tryz.prog 93 #[.func (.func 133) #[] #[.pointer (some ⟨cb,0,none⟩)]] w fun e w'=>∃ v2,e=.returned v2∧Ext [] w w'∧StrsAt w' v2 (hdE f):=by
 have HC:=zz (collectS_walk mb mn cb f w hb hM hf)
 clear hb hM
 go_enter Tryz.func93,Tryz.ntmps93
 go_wp2_with fail
 refine HC.out.mono ?_
 rintro e w1 ⟨v1,ys,rfl,hpm,S⟩
 have hr:w1.ownsRow 0 9 1 v1 ys.length (stC ys):=S.get 0 rfl
 have hso:=sortS ys (hdE f) v1 w1 hr hpm (hdE_sorted f) (by have:=hpm.length_eq; have:=hdE_len f; omega)
 obtain⟨vb,vc,rfl⟩:=row_slice hr
 have HS:=zz2 ⟨S,hso⟩
 clear S hr hso HC
 go_wp2_with fail
 refine HS.out.2.mono ?_
 rintro e w2 ⟨rfl,hx,hr2⟩
 have hx2:Ext [] w w2:=HS.out.1.ext.trans' hx (fun k hk hkm=>by
  have:=HS.out.1.base _ (List.mem_singleton.2 rfl) k (by simpa [oSl] using hkm)
  omega)
 have HF:=zz2 ⟨hx2,strs_own hr2⟩
 clear hx hx2 hr2 HS hpm
 go_wp2_with fail
 go_ret
 exact⟨_,rfl,HF.out.1,HF.out.2⟩
def cntE (l:List Nd):Nat:=(pairsN l (ndAt l 0).kids).length
theorem ents_cnt (l:List Nd) (s:ByteArray):(entsN l s).length≤cntE l:=List.length_filter_le _ _
theorem pairs_len (l:List Nd):∀ K:List Int,(pairsN l K).length≤K.length
 | []=>Nat.zero_le _
 | [k]=>Nat.zero_le _
 | k::m::r=>by
  rw [pairsN]
  have:=pairs_len l r
  simp only [List.length_cons]
  omega
theorem cnt_wd {S:List Ent} (h:checkN (wd S)=0):cntE (wd S)=S.length:=by
 rw [cntE,show (ndAt (wd S) 0).kids=posN 1 (allN S) from whole_root 8 (allN S) ▸ rfl]
 exact congrArg List.length (pairs_whole h)
structure SetMore (l t:List Nd) (s:ByteArray):Prop where
 nodup:((entsN l s++[(s,t)]).map (·.1)).Nodup
 is:setN l s t=(wd (srt (entsN l s++[(s,t)])),0)
 check:checkN (wd (srt (entsN l s++[(s,t)])))=0
 dict:isN (setN l s t).1 8=true
 lt:Lt (setN l s t).1
 cnt:cntE (setN l s t).1≤cntE l+1
 tree:checkN t=0
 name:nameN s=0
theorem set_more {l t:List Nd} {s:ByteArray} (hl:Lt l) (ht:Lt t) (hs:s.size≤1000000) (h0:(setN l s t).2=0):isN l 8=true∧SetMore l t s:=by
 have hdef:=h0
 rw [setN] at hdef
 by_cases hf:firstN [l,t]=0
 case neg=>rw [if_pos hf] at hdef; exact absurd hdef hf
 rw [if_neg (by simpa using hf)] at hdef
 have hcl:checkN l=0∧checkN t=0:=by
  rw [firstN] at hf
  split at hf
  ·rename_i h1
   refine⟨h1,?_⟩
   rw [firstN] at hf
   split at hf
   ·assumption
   ·rename_i h2; exact absurd hf h2
  ·rename_i h1; exact absurd hf h1
 by_cases hk:(ndAt l 0).kind≠8∨nameN s≠0
 case pos=>rw [if_pos hk] at hdef; exact absurd hdef (by decide)
 rw [if_neg hk] at hdef
 have hkind:(ndAt l 0).kind=8:=Decidable.byContradiction fun h=>hk (.inl h)
 have hnm:nameN s=0:=Decidable.byContradiction fun h=>hk (.inr h)
 have his:isN l 8=true:=by simp [isN,hcl.1,hkind]
 obtain⟨d1,d2,d3⟩:=dictN_ok hdef
 have hset:setN l s t=(wd (srt (entsN l s++[(s,t)])),0):=by rw [setN,if_neg (by simpa using hf),if_neg hk,d3]
 have hall:∀ p∈entsN l s++[(s,t)],p.1.size≤1000000∧∀ x∈p.2,x.s.size≤1000000:=fun p hp=>by
  rcases List.mem_append.1 hp with hp | hp
  ·have:=ents_ok his hl p hp
   exact⟨this.1,this.2.2.2⟩
  ·obtain rfl:=List.mem_singleton.1 hp
   exact⟨hs,ht.s⟩
 refine⟨his,d1,hset,d2,?_,?_,?_,hcl.2,hnm⟩
 ·rw [hset]
  simp [isN,d2,show (ndAt (wd (srt (entsN l s++[(s,t)]))) 0).kind=8 from rfl]
 ·rw [hset]
  exact wd_lt d2 (fun p hp=>hall p ((srt_perm _).mem_iff.1 hp))
 ·rw [hset]
  dsimp only
  rw [cnt_wd d2,(srt_perm _).length_eq,List.length_append,List.length_singleton]
  have:=ents_cnt l s
  omega
def ontoN:List Nd→List Ent→List Nd
 | l,[]=>l
 | l,(s,t)::r=>ontoN (if (getN l s).isSome=true then l else if (setN l s t).2=0 then (setN l s t).1 else l) r
structure KOk (l:List Nd) (k:Nat):Prop where
 lt:Lt l
 cnt:cntE l≤k
theorem KOk.step {l t:List Nd} {s:ByteArray} {k:Nat} (h:KOk l k) (ht:Lt t) (hs:s.size≤1000000):KOk (if (getN l s).isSome=true then l else if (setN l s t).2=0 then (setN l s t).1 else l) (k+1):=by
 split
 ·exact⟨h.lt,Nat.le_succ_of_le h.cnt⟩
 ·split
  ·rename_i h0
   obtain⟨-,hm⟩:=set_more h.lt ht hs h0
   exact⟨hm.lt,Nat.le_trans hm.cnt (Nat.succ_le_succ h.cnt)⟩
  ·exact⟨h.lt,Nat.le_succ_of_le h.cnt⟩
structure HdAt (w:World) (b n:Nat) (f:ByteArray→Option Value) (G:ByteArray→Option (List Nd)):Prop where
 map:strMap w b n f
 four:Hd4 f
 same:∀ s,(f s).isSome=(G s).isSome
 val:∀ s v t,f s=some v→G s=some t→NodesAt w v t
 lt:∀ s t,G s=some t→Lt t
def entsG (G:ByteArray→Option (List Nd)) (E:List ByteArray):List Ent:=E.map fun s=>(s,(G s).getD [])
theorem zeroNds (W:World):(zeroValue 31).run Tryz.prog W=.ok (.slice none 0 0) W:=by kernel_rfl
theorem onto_walk (b n:Nat) (f:ByteArray→Option Value) (G:ByteArray→Option (List Nd)) (v:Value) (l:List Nd) (w:World) (h:HdAt w b n f G) (hv:NodesAt w v l) (hl:KOk l 900) :
  Calls Tryz.prog 59 #[.map (some b),v] w fun e w'=>∃ v2 F,e=.returned v2∧Sep w w' [oAny F (fun W=>NodesAt W v l→NodesAt W v2 (ontoN l (entsG G (hdE f))))]:=by
 obtain⟨R,hR⟩:∃ R,ontoN l (entsG G (hdE f))=R:=⟨_,rfl⟩
 rw [hR]
 obtain⟨E,hE⟩:∃ E,hdE f=E:=⟨_,rfl⟩
 rw [hE] at hR
 have hEm:∀ s∈E,s∈names4∧(f s).isSome=true:=fun s hs=>List.mem_filter.1 (by rw [←hE] at hs; exact hs)
 have hEl:E.length≤4:=by rw [←hE]; exact hdE_len f
 have hSo:=fun (cb:Nat) (W:World) (hx:Ext [] w W) (hb:W.heap[cb]? = some (.cells #[.map (some b)] 107 (0,0)))=>sortedS_walk b n cb f W hb (h.map.ext hx (by simp)) h.four
 rw [hE] at hSo
 have HS:=zz hSo
 have HV:=zz5 ⟨h,hv,hl,hEm,hR⟩
 have HK:=zz (keysH_walk b w)
 obtain⟨base,cap,hvv,-,-⟩:=hv
 obtain⟨m,hm⟩:∃ m,l.length=m:=⟨_,rfl⟩
 rw [hm] at hvv
 subst hvv
 obtain⟨k,hk⟩:∃ k,E.length=k:=⟨_,rfl⟩
 have HE:=zz hk
 rw [hk] at hEl
 clear h hl hm hE hEm hSo hR hk
 go_enter Tryz.func59,Tryz.ntmps59
 go_wp2_with fail
 refine HK.out.mono ?_
 rintro e w1 ⟨rfl,hw1⟩
 have hx1:Ext [] w w1:=by rw [hw1]; exact (Ext.refl [] w).alloc _
 have hb1:w1.heap[w.heap.size]? = some (.cells #[.map (some b)] 107 (0,0)):=by rw [hw1]; exact heap_alloc_at _
 have HX1:=zz2 ⟨hx1,hb1⟩
 clear hx1 hb1 hw1 HK
 go_wp2_with fail
 refine (HS.out _ w1 HX1.out.1 HX1.out.2).mono ?_
 rintro e w2 ⟨v2,rfl,hx2,hSt⟩
 obtain⟨sb,sc,rfl,-,hT⟩:=hSt
 have HX2:=zz2 ⟨HX1.out.1.trans hx2,hT⟩
 rw [HE.out]
 clear hx2 hT HS HX1
 go_wp2_with fail
 have S0:Sep w w2 [oAny [] (fun W=>NodesAt W (.slice base m cap) l→NodesAt W (.slice base m cap) l)]:=((Sep.start w).quiet HX2.out.1).new (Ext.refl _ _) _ (oAny.start w2 (fun W h=>h)) (fun q hq=>by cases hq)
 have HS0:=zz S0
 clear S0
 go_loopg [1,6,7,8,9,10,15] k (fun g v1 v6 v7 v8 v9 v10 iv wr=>∃ (i:Nat) (l2:List Nd) (F:List Nat),g+i=k∧iv=.int .i64 i∧KOk l2 (900+i)∧ontoN l2 (entsG G (E.drop i))=R∧Sep w wr [oAny F (fun W=>NodesAt W (.slice base m cap) l→NodesAt W v1 l2)]∧Ext [] w2 wr)
 case atStart=>exact⟨0,l,[],by omega,rfl,HV.out.2.2.1,HV.out.2.2.2.2,HS0.out,Ext.refl _ _⟩
 case round=>
  clear HS0
  obtain⟨i,l2,F,hgi,rfl,hko,hR,S,hxr⟩:=hrel
  have hN2:NodesAt wr u1 l2:=oAny.now (S.get 0 rfl) (HV.out.2.1.ext S.ext)
  obtain⟨ab,ac,hu1⟩:=tree_slice hN2
  obtain⟨al,hal⟩:∃ al,l2.length=al:=⟨_,rfl⟩
  rw [hal] at hu1
  subst hu1
  by_cases hlt:i<k
  case neg=>
   obtain rfl:gk=0:=by omega
   rw [List.drop_of_length_le (by rw [HE.out]; omega)] at hR
   obtain rfl:l2=R:=hR
   have HF:=zz S
   clear S hko hxr hN2 hal
   go_wp2_with fail
   go_ret
   exact⟨_,F,rfl,HF.out⟩
  case pos=>
  obtain⟨g,rfl⟩:∃ g,gk=g+1:=⟨gk - 1,by omega⟩
  have hltz:(i:Int)<(k:Int):=by omega
  have hil:i<E.length:=by rw [HE.out]; exact hlt
  obtain⟨sg,so,rfl,hc⟩:=HX2.out.2 i hil
  have hc:=hxr.cell hc
  rw [List.drop_eq_getElem_cons hil] at hR
  obtain⟨hm4,hfs⟩:=HV.out.2.2.2.1 _ (List.getElem_mem hil)
  generalize E[i]'hil=s at *
  have hsz:=names4_size s hm4
  obtain⟨y,hy⟩:=Option.isSome_iff_exists.1 hfs
  have hgs:(G s).isSome=true:=by rw [←HV.out.1.same s]; exact hfs
  obtain⟨t,ht⟩:=Option.isSome_iff_exists.1 hgs
  rw [entsG,List.map_cons,ht,Option.getD_some,ontoN] at hR
  have hNt:=HV.out.1.val s y t hy ht
  have hLt:=HV.out.1.lt s t ht
  obtain⟨yb,yc,hyv⟩:=tree_slice hNt
  have hG:=get_walk (.slice ab al ac) l2 s wr hN2 hko.lt
  have HG:=zz hG
  have HX:=zz9 ⟨hko,hR,S,hxr,hN2,hsz,hy,hNt,hLt⟩
  obtain⟨has,hhas⟩:∃ h,(getN l2 s).isSome=h:=⟨_,rfl⟩
  have HH:=zz hhas
  rw [hhas] at HG
  clear hG hko hR S hxr hN2 hsz hy hNt hLt hhas hm4 hfs hgs ht
  go_wp2_with fail
  refine HG.out.mono ?_
  rintro e w3 ⟨v3,rfl,hx3,hN3⟩
  obtain⟨gb,gc,rfl,-⟩:=hN3
  have HX3:=zz hx3
  clear hx3 HG hc
  cases has with
  | true=>
   have hR2:=HX.out.2.1
   rw [if_pos HH.out] at hR2
   have HZ:=zz4 ⟨hR2,HX.out.2.2.1.quiet HX3.out,HX.out.2.2.2.1.trans HX3.out,(⟨HX.out.1.lt,Nat.le_succ_of_le HX.out.1.cnt⟩:KOk l2 (900+(i+1)))⟩
   clear hR2
   go_wp2_with fail
   go_roundg g
   case measure=>omega
   case rel=>exact⟨i+1,l2,F,by omega,by go_num,HZ.out.2.2.2,HZ.out.1,HZ.out.2.1,HZ.out.2.2.1⟩
  | false=>
   have hlook:(Instr.lookup 107 (.map (some b)) (.string s) false).run Tryz.prog w3=.ok (.slice yb t.length yc) w3:=by
    have h1:=(HV.out.1.map.ext (HX.out.2.2.1.ext.trans HX3.out) (by simp)).look lawS Tryz.underlying107 (zeroNds w3) (x:=s) (keyS HX.out.2.2.2.2.2.1)
    rw [HX.out.2.2.2.2.2.2.1,Option.getD_some,hyv] at h1
    exact h1
   have hNt:=HX.out.2.2.2.2.2.2.2.1
   rw [hyv] at hNt
   have hSet:=set_new (.slice ab al ac) (.slice yb t.length yc) l2 t s w3 (HX.out.2.2.2.2.1.ext HX3.out) (hNt.ext (HX.out.2.2.1.ext.trans HX3.out)) HX.out.1.lt HX.out.2.2.2.2.2.2.2.2 HX.out.2.2.2.2.2.1 (by have:=HX.out.1.cnt; have:=ents_cnt l2 s; omega)
   have hstep:=HX.out.1.step HX.out.2.2.2.2.2.2.2.2 HX.out.2.2.2.2.2.1
   have hR2:=HX.out.2.1
   rw [if_neg (by rw [HH.out]; simp)] at hR2 hstep
   obtain⟨tl,htl⟩:∃ n,t.length=n:=⟨_,rfl⟩
   rw [htl] at hlook hSet
   obtain⟨SR,hSR⟩:∃ r,setN l2 s t=r:=⟨_,rfl⟩
   rw [hSR] at hSet hR2 hstep
   obtain⟨l3,e3⟩:=SR
   dsimp only at hSet hR2 hstep
   have HSt:=zz hSet
   have HZ:=zz2 ⟨hR2,hstep⟩
   clear hSet hR2 hstep hNt hSR htl
   go_wp2_with fail
   refine HSt.out.mono ?_
   rintro e w4 ⟨v4,rfl,F4,S4⟩
   obtain⟨nb,nc,rfl⟩:=tree_slice (oTr.nodes (S4.get 0 rfl))
   have hx34:=HX3.out.trans S4.ext
   clear HSt hlook
   by_cases h0:e3=0
   ·subst h0
    have hR3:=HZ.out.1
    have hk3:=HZ.out.2
    rw [if_pos rfl] at hR3 hk3
    have hT:(oAny F4 (fun W=>NodesAt W (.slice nb l3.length nc) l3)).P w4:=S4.get 0 rfl
    have S5:Sep w w4 [oAny F4 (fun W=>NodesAt W (.slice base m cap) l→NodesAt W (.slice nb l3.length nc) l3)]:=
     (Sep.since (HX.out.2.2.1.ext.trans HX3.out) S4).upd 0 (oAny F4 (fun W=>NodesAt W (.slice base m cap) l→NodesAt W (.slice nb l3.length nc) l3)) rfl (Ext.refl _ _) (Fr.refl _ _) (oAny.imp hT (fun W hW _=>hW))
    have HQ:=zz4 ⟨hR3,hk3,S5,HX.out.2.2.2.1.trans hx34⟩
    clear hR3 hk3 S5 hT S4 hx34 HZ
    go_wp2_with fail
    go_roundg g
    case measure=>omega
    case rel=>exact⟨i+1,l3,F4,by omega,by go_num,HQ.out.2.1,HQ.out.1,HQ.out.2.2.1,HQ.out.2.2.2⟩
   ·have hR3:=HZ.out.1
    have hk3:=HZ.out.2
    rw [if_neg h0] at hR3 hk3
    have hzb:(e3==0)=false:=beq_eq_false_iff_ne.2 h0
    have HQ:=zz4 ⟨hR3,hk3,HX.out.2.2.1.quiet hx34,HX.out.2.2.2.1.trans hx34⟩
    clear hR3 hk3 S4 hx34 HZ h0
    go_wp2_with fail
    go_roundg g
    case measure=>omega
    case rel=>exact⟨i+1,l2,F,by omega,by go_num,HQ.out.2.1,HQ.out.1,HQ.out.2.2.1,HQ.out.2.2.2⟩
abbrev Hg:=ByteArray→Option (List Nd)
def gdE (G:Hg):List ByteArray:=names4.filter fun s=>(G s).isSome
def in4 (s:ByteArray):Bool:=names4.any fun q=>decide (q=s)
theorem in4_iff (s:ByteArray):in4 s=true↔s∈names4:=by
 unfold in4
 rw [List.any_eq_true]
 exact⟨fun⟨q,h1,h2⟩=>by rw [←of_decide_eq_true h2]; exact h1,fun h=>⟨s,h,decide_eq_true rfl⟩⟩
def withG (G:Hg) (l:List Nd):Hg:=fun s=>if in4 s=true then (match getN l s with | some t=>some t | none=>G s) else G s
def bare (x:Om):Om:={ x with tv:=.slice none 0 0 }
def pageO (x:Om) (G:Hg):Om:={ x with tv:=.slice none 0 0,tree:=ontoN x.tree (entsG G (gdE G))}
def leafN (x:Om):Bool:=x.stream || !(kidsN x.tree).2.1
def walkF (L:List Om):Nat→List (Rf×Hg)→List Rf→List Om→List Om
 | 0,_,_,out=>out
 | _+1,[],_,out=>out
 | n+1,(r,G)::st,seen,out=>match findO L r with
  | none=>walkF L n st seen out
  | some x=>
   if r∈seen then walkF L n st seen out else
   if pageN x=true then walkF L n st (seen++[r]) (out++[pageO x G]) else
   if leafN x=true then walkF L n st (seen++[r]) out else
   walkF L n ((kidsN x.tree).1.map (fun k=>(k,withG G x.tree))++st) (seen++[r]) out
def potN:List Om→List Rf→Nat
 | [],_=>0
 | x::L,seen=>(if (x.num,x.gen)∈seen then 0 else (kidsN x.tree).1.length)+potN L seen
theorem pot_mono (r:Rf):∀ (L:List Om) (seen:List Rf),potN L (seen++[r])≤potN L seen
 | [],_=>Nat.le_refl _
 | x::L,seen=>by
  rw [potN,potN]
  have:=pot_mono r L seen
  by_cases h:(x.num,x.gen)∈seen
  ·rw [if_pos h,if_pos (by simp [h])]; omega
  ·rw [if_neg h]; split <;> omega
theorem pot_less {r:Rf} {x:Om}:∀ {L:List Om} {seen:List Rf},findO L r=some x→r∉seen→potN L (seen++[r])+(kidsN x.tree).1.length≤potN L seen
 | [],_,h,_=>by cases h
 | y::L,seen,h,hn=>by
  rw [potN,potN]
  by_cases hy:isR r y=true
  ·have he:findO (y::L) r=some y:=by unfold findO; rw [List.find?_cons,hy]
   rw [he] at h
   obtain rfl:=Option.some.inj h
   have:=isR_eq hy
   subst this
   rw [if_pos (by simp),if_neg hn]
   have:=pot_mono (y.num,y.gen) L seen
   omega
  ·have he:findO (y::L) r=findO L r:=by unfold findO; rw [List.find?_cons]; simp [hy]
   rw [he] at h
   have:=pot_less (L:=L) h hn
   by_cases h2:(y.num,y.gen)∈seen
   ·rw [if_pos h2,if_pos (by simp [h2])]; omega
   ·rw [if_neg h2]; split <;> omega
def walkN (root:Rf) (L:List Om):List Om:=match findO L root with
 | none=>[]
 | some x=>if catN x=false then [] else if (toN x.tree kPages).2=false then [] else walkF L (1+potN L []) [((toN x.tree kPages).1,fun _=>none)] [] []
theorem hd_gd {w:World} {b n:Nat} {f:ByteArray→Option Value} {G:Hg} (h:HdAt w b n f G):hdE f=gdE G:=by
 unfold hdE gdE
 exact List.filter_congr fun s _=>h.same s
theorem hd_with {w w2:World} {b b2 n:Nat} {f f2:ByteArray→Option Value} {G:Hg} {l:List Nd} (hl:Lt l) (h:HdAt w b n f G) (hN:∀ s v t,f s=some v→G s=some t→NodesAt w2 v t) (hm:strMap w2 b2 (n+4) f2) (hq:WithQ l names4 f2 w2) (hf:WithF l names4 f f2):HdAt w2 b2 (n+4) f2 (withG G l):=by
 have key:∀ s,(s∈names4∧∃ t v,getN l s=some t∧withG G l s=some t∧f2 s=some v∧NodesAt w2 v t)∨(withG G l s=G s∧f2 s=f s):=fun s=>by
  by_cases hs:s∈names4
  ·cases hg:getN l s with
   | none=>
    refine .inr ⟨by unfold withG; rw [if_pos ((in4_iff s).2 hs),hg],?_⟩
    rcases hf s with h1 | h1
    ·rw [hg] at h1; cases h1.2
    ·exact h1
   | some t=>
    obtain⟨v,h1,h2⟩:=hq s hs t hg
    exact .inl ⟨hs,t,v,rfl,by unfold withG; rw [if_pos ((in4_iff s).2 hs),hg],h1,h2⟩
  ·refine .inr ⟨by unfold withG; rw [if_neg (fun h=>hs ((in4_iff s).1 h))],?_⟩
   rcases hf s with h1 | h1
   ·exact absurd h1.1 hs
   ·exact h1
 refine⟨hm,fun s hs=>?_,fun s=>?_,fun s v t h1 h2=>?_,fun s t h1=>?_⟩
 ·rcases key s with ⟨h1,-⟩ | ⟨-,h1⟩
  ·exact h1
  ·exact h.four s (by rw [←h1]; exact hs)
 ·rcases key s with ⟨-,t,v,-,h1,h2,-⟩ | ⟨h1,h2⟩
  ·rw [h1,h2]; rfl
  ·rw [h1,h2]; exact h.same s
 ·rcases key s with ⟨-,t',v',-,h3,h4,h5⟩ | ⟨h3,h4⟩
  ·rw [h3] at h2; rw [h4] at h1
   obtain rfl:=Option.some.inj h1
   obtain rfl:=Option.some.inj h2
   exact h5
  ·rw [h3] at h2; rw [h4] at h1
   exact hN s v t h1 h2
 ·rcases key s with ⟨-,t',v',h2,h3,-⟩ | ⟨h3,-⟩
  ·rw [h3] at h1
   obtain rfl:=Option.some.inj h1
   exact get_lt h2 hl
  ·rw [h3] at h1; exact h.lt s t h1
def keysO (L:List Om):List Rf:=L.map fun x=>(x.num,x.gen)
theorem prefs_walk (v:Value) (L:List Om) (w:World) (h:OmsAt w v L) (hl:L.length≤100000) :
  Calls Tryz.prog 45 #[v] w fun e w'=>∃ v2,e=.returned v2∧Sep w w' [oSl 24 2 v2 (keysO L).length (rfC (keysO L))]:=by
 obtain⟨j0,hjf,hy0,hy1,hy2⟩:=info_parts infoRef17
 obtain⟨base,cap,rfl,-,hT⟩:=h
 obtain⟨n,hln⟩:∃ n,L.length=n:=⟨_,rfl⟩
 obtain⟨R,hR⟩:∃ R,keysO L=R:=⟨_,rfl⟩
 have HH:=zz3 ⟨hT,hln,hR⟩
 rw [hR]
 rw [hln] at hl ⊢
 clear hT hln hR
 have HS:=zz ((Sep.start w).new (Ext.refl _ _) (oSl 24 2 (.slice none 0 0) 0 (rfC [])) (World.ownsRow_nil _ _ _ _) (fun q hq=>by simp [oSl,Value.ownBlock] at hq))
 go_enter Tryz.func45,Tryz.ntmps45
 go_wp2_with fail
 go_loopg [3,5,8] n (fun g v3 v5 iv wr=>∃ i:Nat,g+i=n∧iv=.int .i64 i∧Sep w wr [oSl 24 2 v3 i (rfC (keysO (L.take i)))])
 case atStart=>exact⟨0,by omega,rfl,HS.out⟩
 case round=>
  clear HS
  obtain⟨i,hgi,rfl,S⟩:=hrel
  have hr0:wr.ownsRow 0 24 2 u3 i (rfC (keysO (L.take i))):=S.get 0 rfl
  obtain⟨ab,ac,rfl⟩:=row_slice hr0
  by_cases hlt:i<n
  case neg=>
   obtain rfl:gk=0:=by omega
   obtain rfl:i=n:=by omega
   rw [List.take_of_length_le (by rw [HH.out.2.1]; omega),HH.out.2.2] at S
   have hRl:R.length=i:=by rw [←HH.out.2.2,keysO,List.length_map]; exact HH.out.2.1
   have HF:=zz2 ⟨S,hRl⟩
   clear S hr0 hRl
   go_wp2_with fail
   go_ret
   exact⟨_,rfl,by rw [HF.out.2]; exact HF.out.1⟩
  case pos=>
  obtain⟨g,rfl⟩:∃ g,gk=g+1:=⟨gk - 1,by omega⟩
  have hltz:(i:Int)<(n:Int):=by omega
  have hil:i<L.length:=by rw [HH.out.2.1]; exact hlt
  obtain⟨b,o,rfl,n1,n2,n3,n4,n5,hN⟩:=HH.out.1.ext S.ext i hil
  have htk:keysO (L.take (i+1))=keysO (L.take i)++[((L[i]'hil).num,(L[i]'hil).gen)]:=by rw [List.take_succ_eq_append_getElem hil,keysO,List.map_append]; rfl
  generalize L[i]'hil=x at *
  obtain⟨tb,tc,htv⟩:=tree_slice hN
  obtain⟨num,gen,tv,st,dt,tr⟩:=x
  have htv:tv=.slice tb tr.length tc:=htv
  subst htv
  obtain⟨tn,htn⟩:∃ tn,tr.length=tn:=⟨_,rfl⟩
  rw [htn] at n3
  dsimp only at n1 n2 n3 n4 n5 htk
  have HOf:=zz (fun W=>of_walk ⟨num,gen,.slice tb tn tc,st,dt,tr⟩ W ⟨_,_,_,rfl⟩)
  have HX:=zz3 ⟨S,htk,hr0⟩
  clear S htk hr0 hN htn
  go_wp2_with fail
  refine (HOf.out _).mono ?_
  rintro e w2 ⟨rfl,hx2⟩
  have hx3:=((Ext.refl [] wr).alloc (.cells #[.int .i64 num,.int .i64 gen,.slice tb tn tc,.bool st,.string dt] 35)).trans hx2
  have HS3:=zz (HX.out.1.quiet hx3)
  have hr3:w2.ownsRow 0 24 2 (.slice ab i ac) i (rfC (keysO (L.take i))):=HS3.out.get 0 rfl
  have HR3:=zz hr3
  clear hx2 hx3 hr3 HOf n1 n2 n3 n4 n5
  go_wp2_with (first | (at_builtin; refine wpList_append_lies _ rfl _ _ 36 rfl 0 24 j0 _ 2 16 Tryz.underlying36 hjf hy0 hy1 hy2 rfl (by decide) (.slice ab i ac) i _ rfl (World.ownsRow.alloc HR3.out _) ⟨w2.heap.size,0,none⟩ 1 1 [.int .i64 num,.int .i64 gen] rfl rfl (World.news_of_block (heap_alloc_at (w:=w2) _)) (by simp [Value.oneCell']) (by decide) (by unfold maxLen; omega) (by omega) (by omega) (w2.heap.size+1) (by simp) ?_; intro g6 cap2 w9 hown1 hgrow hat6 hlt6; have HGr:=zz3 ⟨hown1,hgrow,hat6⟩; clear hown1 hgrow hat6 hlt6))
  have Pl:=push_local (cap:=cap2) (n:=i+1) HGr.out.2.1 HGr.out.2.2
  have S9:=HS3.out.upd 0 (oSl 24 2 (.slice (some ⟨g6,0,none⟩) (i+1) cap2) (i+1) (rfC (keysO (L.take (i+1))))) rfl Pl.1 Pl.2 (by
   show World.ownsRow _ 0 24 2 _ _ _
   rw [HX.out.2.1,rfC_append]
   exact HGr.out.1)
  go_roundg g
  case measure=>omega
  case rel=>exact⟨i+1,by omega,by go_num,S9⟩
def markD (D:Nat):Deferred:={ target:=.collected D,args:=#[]}
def oMarks (Ds:List Nat):Ob where
 F:=Ds
 P:=fun w=>∀ D∈Ds,w.heap[D]? = some (.deferred (some []))
 ok:=fun h hx hS=>fun D hD=>hx.keep (h D hD) (hS D hD)
 lt:=fun h D hD=>lt_of_block (h D hD)
theorem leaves_marks {n:Nat} {P:Program} {fn:Func} {tmps:Array Value} {R:Ending→World→Prop} {v:Value} (hres:∀ W,(results fn tmps).run P W=.ok v W):∀ (Ds:List Nat) (W:World),Ds.Nodup→(∀ D∈Ds,W.heap[D]? = some (.deferred (some [])))→(∀ W',Ext Ds W W'→R (.returned v) W')→
  LeavesInM Fence.wide n P fn tmps R (Ds.map markD) .returning W
 | [],W,_,_,hR=>by
  refine⟨_,hres W,hR W (Ext.refl _ _)⟩
 | D::Ds,W,hn,hd,hR=>by
  refine⟨by simp,.inl ⟨D,_,rfl,run_takeDeferred (hd D (List.mem_cons_self ..)),?_⟩⟩
  have hnd:=List.nodup_cons.1 hn
  refine leaves_marks hres Ds _ hnd.2 (fun E hE=>?_) (fun W' hx=>hR W' (((Ext.putObj W D (.deferred none)).mono (fun i _ hi=>by obtain rfl:=List.mem_singleton.1 hi; exact List.mem_cons_self ..)).trans (hx.mono (fun i _ hi=>List.mem_cons_of_mem _ hi))))
  exact (World.putObj_heap_other (fun e=>hnd.1 (by first | (rw [e]; exact hE) | (rw [←e]; exact hE)))).trans (hd E (List.mem_cons_of_mem _ hE))
theorem sep_pick {w0 w:World} {L L' : List Ob} (is:List Nat) (S:Sep w0 w L) (hn:is.Nodup) (h:L'.map some=is.map (fun i=>L[i]?)):Sep w0 w L':=by
 have key:∀ (i:Nat) (o:Ob),L'[i]? = some o→∃ k,is[i]? = some k∧L[k]? = some o:=fun i o hi=>by
  have h1:(L'.map some)[i]? = some (some o):=by rw [List.getElem?_map,hi]; rfl
  rw [h,List.getElem?_map] at h1
  obtain⟨k,hk,hk2⟩:=Option.map_eq_some_iff.1 h1
  exact⟨k,hk,hk2⟩
 have mem:∀ o∈L',o∈L:=fun o ho=>by
  obtain⟨i,hi⟩:=List.getElem?_of_mem ho
  obtain⟨k,-,hk⟩:=key i o hi
  exact List.mem_of_getElem? hk
 refine⟨S.ext,fun o ho=>S.each o (mem o ho),fun o ho=>S.base o (mem o ho),fun i j a b hi hj hij=>?_⟩
 obtain⟨k,hk,hk2⟩:=key i a hi
 obtain⟨m,hm,hm2⟩:=key j b hj
 refine S.apart k m a b hk2 hm2 (fun e=>hij ?_)
 subst e
 exact (List.getElem?_inj (List.getElem?_eq_some_iff.1 hk).1 hn).1 (hk.trans hm.symm)
theorem arr_out (T:Array Value) {n:Nat} (h:T.size=n):T=((List.range n).map fun i=>T.getD i undef).toArray:=by
 subst h
 apply Array.ext
 ·simp
 ·intro i h1 h2
  simp [Array.getD,h1]
theorem arr113 (T:Array Value) (h:T.size=113):T=#[T.getD 0 undef,T.getD 1 undef,T.getD 2 undef,T.getD 3 undef,T.getD 4 undef,T.getD 5 undef,T.getD 6 undef,T.getD 7 undef,T.getD 8 undef,T.getD 9 undef,T.getD 10 undef,T.getD 11 undef,T.getD 12 undef,T.getD 13 undef,T.getD 14 undef,T.getD 15 undef,T.getD 16 undef,T.getD 17 undef,T.getD 18 undef,T.getD 19 undef,T.getD 20 undef,T.getD 21 undef,T.getD 22 undef,T.getD 23 undef,T.getD 24 undef,T.getD 25 undef,T.getD 26 undef,T.getD 27 undef,T.getD 28 undef,T.getD 29 undef,T.getD 30 undef,T.getD 31 undef,T.getD 32 undef,T.getD 33 undef,T.getD 34 undef,T.getD 35 undef,T.getD 36 undef,T.getD 37 undef,T.getD 38 undef,T.getD 39 undef,T.getD 40 undef,T.getD 41 undef,T.getD 42 undef,T.getD 43 undef,T.getD 44 undef,T.getD 45 undef,T.getD 46 undef,T.getD 47 undef,T.getD 48 undef,T.getD 49 undef,T.getD 50 undef,T.getD 51 undef,T.getD 52 undef,T.getD 53 undef,T.getD 54 undef,T.getD 55 undef,T.getD 56 undef,T.getD 57 undef,T.getD 58 undef,T.getD 59 undef,T.getD 60 undef,T.getD 61 undef,T.getD 62 undef,T.getD 63 undef,T.getD 64 undef,T.getD 65 undef,T.getD 66 undef,T.getD 67 undef,T.getD 68 undef,T.getD 69 undef,T.getD 70 undef,T.getD 71 undef,T.getD 72 undef,T.getD 73 undef,T.getD 74 undef,T.getD 75 undef,T.getD 76 undef,T.getD 77 undef,T.getD 78 undef,T.getD 79 undef,T.getD 80 undef,T.getD 81 undef,T.getD 82 undef,T.getD 83 undef,T.getD 84 undef,T.getD 85 undef,T.getD 86 undef,T.getD 87 undef,T.getD 88 undef,T.getD 89 undef,T.getD 90 undef,T.getD 91 undef,T.getD 92 undef,T.getD 93 undef,T.getD 94 undef,T.getD 95 undef,T.getD 96 undef,T.getD 97 undef,T.getD 98 undef,T.getD 99 undef,T.getD 100 undef,T.getD 101 undef,T.getD 102 undef,T.getD 103 undef,T.getD 104 undef,T.getD 105 undef,T.getD 106 undef,T.getD 107 undef,T.getD 108 undef,T.getD 109 undef,T.getD 110 undef,T.getD 111 undef,T.getD 112 undef]:=arr_out T h
theorem arr113e (T:Array Value) (h:T.size=113):∃ (u0 u1 u2 u3 u4 u5 u6 u7 u8 u9 u10 u11 u12 u13 u14 u15 u16 u17 u18 u19 u20 u21 u22 u23 u24 u25 u26 u27 u28 u29 u30 u31 u32 u33 u34 u35 u36 u37 u38 u39 u40 u41 u42 u43 u44 u45 u46 u47 u48 u49 u50 u51 u52 u53 u54 u55 u56 u57 u58 u59 u60 u61 u62 u63 u64 u65 u66 u67 u68 u69 u70 u71 u72 u73 u74 u75 u76 u77 u78 u79 u80 u81 u82 u83 u84 u85 u86 u87 u88 u89 u90 u91 u92 u93 u94 u95 u96 u97 u98 u99 u100 u101 u102 u103 u104 u105 u106 u107 u108 u109 u110 u111 u112:Value),T=#[u0,u1,u2,u3,u4,u5,u6,u7,u8,u9,u10,u11,u12,u13,u14,u15,u16,u17,u18,u19,u20,u21,u22,u23,u24,u25,u26,u27,u28,u29,u30,u31,u32,u33,u34,u35,u36,u37,u38,u39,u40,u41,u42,u43,u44,u45,u46,u47,u48,u49,u50,u51,u52,u53,u54,u55,u56,u57,u58,u59,u60,u61,u62,u63,u64,u65,u66,u67,u68,u69,u70,u71,u72,u73,u74,u75,u76,u77,u78,u79,u80,u81,u82,u83,u84,u85,u86,u87,u88,u89,u90,u91,u92,u93,u94,u95,u96,u97,u98,u99,u100,u101,u102,u103,u104,u105,u106,u107,u108,u109,u110,u111,u112]:=⟨_,_,_,_,_,_,_,_,_,_,_,_,_,_,_,_,_,_,_,_,_,_,_,_,_,_,_,_,_,_,_,_,_,_,_,_,_,_,_,_,_,_,_,_,_,_,_,_,_,_,_,_,_,_,_,_,_,_,_,_,_,_,_,_,_,_,_,_,_,_,_,_,_,_,_,_,_,_,_,_,_,_,_,_,_,_,_,_,_,_,_,_,_,_,_,_,_,_,_,_,_,_,_,_,_,_,_,_,_,_,_,_,_,arr113 T h⟩
end Pg
end Go.Proofs.YtljachhmdogkdaaGreatDoor
