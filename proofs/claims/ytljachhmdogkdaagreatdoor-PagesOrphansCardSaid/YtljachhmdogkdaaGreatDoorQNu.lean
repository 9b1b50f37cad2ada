/-
 Texts NuA, NuB, NuC, NuD, NuE, NuF, NuG, as far as the statement needs them.
-/
import Derived.Test.YtljachhmdogkdaaGreatDoorQPkA
import Derived.Test.YtljachhmdogkdaaGreatDoorQShA
import Derived.Lib.TrimByte
import Derived.Lib.Bytealg
import Derived.Lib.Small
import Derived.Deep.CutBlock
import Derived.Deep.DeepCutAuto
set_option maxRecDepth 100000
set_option maxHeartbeats 64000000
namespace Go.Proofs.YtljachhmdogkdaaGreatDoor
namespace Nu
open Go.RowKit
def digB (c:UInt8):Bool:=decide (48≤c.toNat∧c.toNat≤57)
def befL (l:List UInt8):List UInt8:=l.takeWhile (· != 46)
def aftL (l:List UInt8):List UInt8:=(l.dropWhile (· != 46)).drop 1
def hasL (l:List UInt8):Bool:=l.contains 46
def sgnB (l:List UInt8):Bool:=l.head? == some 45
def sgnR (l:List UInt8):List UInt8:=if l.head? = some 43∨l.head? = some 45 then l.drop 1 else l
structure Num where
 kind:Nat
 neg:Bool
 a:List UInt8
 b:List UInt8
def goodL (r:List UInt8):Bool:=(befL r).all digB&&(aftL r).all digB && !(befL r++aftL r).isEmpty
def cutN (l:List UInt8):Num:=if goodL (sgnR l) then ⟨if hasL (sgnR l) then 2 else 1,sgnB l,befL (sgnR l),aftL (sgnR l)⟩ else ⟨0,false,[],[]⟩
def longN (p:Num):Bool:=decide (64<p.a.length+p.b.length)
def tl (l:List UInt8):List UInt8:=Lib.trimLeftB l 48
def tr (l:List UInt8):List UInt8:=Lib.trimRightB l 48
def bareN (p:Num):Num:=⟨p.kind,p.neg && !(tl p.a++tr p.b).isEmpty,tl p.a,tr p.b⟩
def orS (l:List UInt8):List UInt8:=if l.isEmpty then [48] else l
def txtN (p:Num):List UInt8:=(if p.neg then [45] else [])++orS p.a++[46]++orS p.b
def realN (l:List UInt8):List UInt8×Int:=
 if (cutN l).kind≠2 then ([],7) else if longN (cutN l) then ([],3) else
 if longN ⟨2,(bareN (cutN l)).neg,orS (bareN (cutN l)).a,orS (bareN (cutN l)).b⟩ then ([],3) else (txtN (bareN (cutN l)),0)
def B (s:ByteArray):List UInt8:=s.data.toList
def S (l:List UInt8):ByteArray:=⟨l.toArray⟩
theorem S_B (s:ByteArray):S (B s)=s:=rfl
theorem B_S (l:List UInt8):B (S l)=l:=rfl
theorem S_size (l:List UInt8):(S l).size=l.length:=rfl
theorem B_len (s:ByteArray):(B s).length=s.size:=rfl
theorem S_app (a b:List UInt8):S a++S b=S (a++b):=by
 apply ByteArray.ext
 apply Array.ext'
 rw [ByteArray.data_append,Array.toList_append]
 rfl
theorem S_ext (s:ByteArray) (i j:Nat):s.extract i j=S (((B s).take j).drop i):=by
 apply ByteArray.ext
 apply Array.ext'
 rw [ByteArray.data_extract,Array.toList_extract]
 simp only [List.extract,B,S]
 rw [List.drop_take]
theorem S_tail (s:ByteArray) (i:Nat):s.extract i s.size=S ((B s).drop i):=by
 rw [S_ext,←B_len,List.take_length]
theorem digit_walk (c:UInt8) (w:World):Calls Tryz.prog 187 #[.int .u8 c.toNat] w fun e w'=>e=.returned (.bool (digB c))∧w=w':=by
 have hc:=c.toNat_lt
 unfold digB
 obtain⟨x,hx⟩:∃ x,c.toNat=x:=⟨_,rfl⟩
 rw [hx] at hc ⊢
 clear hx
 by_cases h1:48≤x
 ·have h1z:(48:Int)≤(x:Int):=by omega
  by_cases h2:x≤57
  ·have h2z:(x:Int)≤57:=by omega
   rw [decide_eq_true ⟨h1,h2⟩]
   go_enter Tryz.func187,Tryz.ntmps187
   go_wp2_with fail
   go_ret
   exact⟨rfl,rfl⟩
  ·have h2z:¬ (x:Int)≤57:=by omega
   rw [decide_eq_false (fun h=>h2 h.2)]
   go_enter Tryz.func187,Tryz.ntmps187
   go_wp2_with fail
   go_ret
   exact⟨rfl,rfl⟩
 ·have h1z:¬ (48:Int)≤(x:Int):=by omega
  rw [decide_eq_false (fun h=>h1 h.1)]
  go_enter Tryz.func187,Tryz.ntmps187
  go_wp2_with fail
  go_ret
  exact⟨rfl,rfl⟩
theorem B_at (s:ByteArray) (i:Nat) (h:i<s.size):(B s).drop i=s[i]'h::(B s).drop (i+1):=by
 rw [List.drop_eq_getElem_cons (by rw [B_len]; exact h)]
 rfl
theorem digits_walk (s:ByteArray) (w:World) (hs:s.size≤9223372036854775807):Calls Tryz.prog 178 #[.string s] w fun e w'=>e=.returned (.bool ((B s).all digB))∧w=w':=by
 obtain⟨R,hR⟩:∃ R,(B s).all digB=R:=⟨_,rfl⟩
 rw [hR]
 have HR:=zz hR
 clear hR
 go_enter Tryz.func178,Tryz.ntmps178
 go_wp2_with fail
 go_loopg [3,6] s.size (fun g nv iv wr=>∃ k:Nat,g+k=s.size∧iv=.int .i64 k∧((B s).drop k).all digB=R∧wr=w)
 case atStart=>exact⟨0,by omega,rfl,HR.out,rfl⟩
 case round=>
  obtain⟨k,hgk,rfl,hd,rfl⟩:=hrel
  by_cases hlt:k<s.size
  ·obtain⟨g,rfl⟩:∃ g,gk=g+1:=⟨gk - 1,by omega⟩
   have hltz:(k:Int)<(s.size:Int):=by omega
   rw [B_at s k hlt,List.all_cons] at hd
   have HW:=zz (fun w=>digit_walk (s[k]'hlt) w)
   cases hc:digB (s[k]'hlt) with
   | true=>
    rw [hc,Bool.true_and] at hd
    rw [hc] at HW
    have HD:=zz hd
    clear hd hc
    go_wp2_with fail
    refine (HW.out _).mono ?_
    rintro e w1 ⟨rfl,rfl⟩
    go_wp2_with fail
    go_roundg g
    case measure=>omega
    case rel=>exact⟨k+1,by omega,by go_num,HD.out,rfl⟩
   | false=>
    rw [hc,Bool.false_and] at hd
    rw [hc] at HW
    subst hd
    clear hc HR
    go_wp2_with fail
    refine (HW.out _).mono ?_
    rintro e w1 ⟨rfl,rfl⟩
    go_wp2_with fail
    go_ret
    exact⟨rfl,rfl⟩
  ·obtain rfl:k=s.size:=by omega
   rw [List.drop_of_length_le (by rw [B_len]; exact Nat.le_refl _)] at hd
   obtain rfl:true=R:=hd
   clear HR
   go_wp2_with fail
   go_ret
   exact⟨rfl,rfl⟩
theorem idx_has:∀ l:List UInt8,hasL l=true→∃ k,Lib.indexByte l 46=(k:Nat)∧k<l.length∧l.take k=befL l∧l.drop (k+1)=aftL l
 | [],h=>by simp [hasL] at h
 | x::l,h=>by
  by_cases hx:x=46
  ·subst hx
   exact⟨0,by simp [Lib.indexByte],by simp,by simp [befL],by simp [aftL]⟩
  ·have h2:hasL l=true:=by
    unfold hasL at h ⊢
    simpa [Ne.symm hx] using h
   obtain⟨k,h1,h3,h4,h5⟩:=idx_has l h2
   have hb:(x != 46)=true:=by simpa using hx
   refine⟨k+1,?_,by rw [List.length_cons]; omega,?_,?_⟩
   ·simp [Lib.indexByte,hx,h1]
   ·rw [List.take_succ_cons,h4]
    unfold befL
    rw [List.takeWhile_cons,if_pos hb]
   ·rw [List.drop_succ_cons,h5]
    unfold aftL
    rw [List.dropWhile_cons,if_pos hb]
theorem idx_not:∀ l:List UInt8,hasL l=false→Lib.indexByte l 46 = -1∧befL l=l∧aftL l=[]
 | [],_=>⟨rfl,rfl,rfl⟩
 | x::l,h=>by
  have hx:¬ x=46:=fun e=>by
   subst e
   simp [hasL] at h
  have h2:hasL l=false:=by
   unfold hasL at h ⊢
   simp at h ⊢
   exact h.2
  obtain⟨h1,h3,h4⟩:=idx_not l h2
  have hb:(x != 46)=true:=by simpa using hx
  refine⟨?_,?_,?_⟩
  ·simp [Lib.indexByte,hx,h1]
  ·unfold befL at h3 ⊢
   rw [List.takeWhile_cons,if_pos hb,h3]
  ·unfold aftL at h4 ⊢
   rw [List.dropWhile_cons,if_pos hb,h4]
theorem results_tmp3 {P:Program} {fn:Func} {p q r:Tmp} (h:fn.results=#[.tmp p,.tmp q,.tmp r]) (tmps:Array Value) (w:World) :
  (results fn tmps).run P w=.ok (.tuple #[tmps.getD p undef,tmps.getD q undef,tmps.getD r undef]) w:=by
 simp [results,h]
theorem slcut_walk (s:ByteArray) (w:World) (hs:s.size≤9223372036854775807) :
  Calls Tryz.prog 186 #[.string s,.string ⟨#[46]⟩] w fun e w'=>e=.returned (.tuple #[.string (S (befL (B s))),.string (S (aftL (B s))),.bool (hasL (B s))])∧Ext [] w w':=by
 have HI:=zz (fun w=>Tryz.stringslite_Index_one s 46 w)
 cases hh:hasL (B s) with
 | true=>
  obtain⟨k,h1,h2,h3,h4⟩:=idx_has (B s) hh
  rw [B_len] at h2
  have e1:s.extract 0 k=S (befL (B s)):=by rw [S_ext,List.drop_zero,h3]
  have e2:s.extract (k+1) s.size=S (aftL (B s)):=by rw [S_tail,h4]
  rw [show Lib.indexByte s.data.toList 46=(k:Nat) from h1] at HI
  obtain⟨X,hX⟩:∃ X,S (befL (B s))=X:=⟨_,rfl⟩
  obtain⟨Y,hY⟩:∃ Y,S (aftL (B s))=Y:=⟨_,rfl⟩
  rw [hX] at e1
  rw [hY] at e2
  rw [hX,hY]
  have HE:=zz2 ⟨e1,e2⟩
  have k0:(0:Int)≤(k:Int):=by omega
  have k1:(k:Int)≤(s.size:Int):=by omega
  have k2:(k:Int)+1≤(s.size:Int):=by omega
  clear hh h1 h2 h3 h4 e1 e2 hX hY
  go_enter Tryz.func186,Tryz.ntmps186
  go_wp2_with fail
  refine (HI.out _).mono ?_
  rintro e w1 ⟨rfl,rfl⟩
  go_wp2_with fail
  refine wp_region_ext (by kernel_rfl) (by kernel_rfl) ?_
  repeat (go_big_quiet_step (fail))
  refine wpQuiet_nil ?_
  rintro _ ⟨y,rfl⟩
  rw [HE.out.1,HE.out.2]
  have HX:=zz y.ext
  go_wp2_with fail
  exact bodyPost_ret (results_tmp3 rfl _ _) rfl ⟨rfl,HX.out⟩
 | false=>
  obtain⟨h1,h2,h3⟩:=idx_not (B s) hh
  rw [show Lib.indexByte s.data.toList 46 = -1 from h1] at HI
  rw [h2,h3,S_B,show S []=(⟨#[]⟩:ByteArray) from rfl]
  clear hh h1 h2 h3
  go_enter Tryz.func186,Tryz.ntmps186
  go_wp2_with fail
  refine (HI.out _).mono ?_
  rintro e w1 ⟨rfl,rfl⟩
  go_wp2_with fail
  exact bodyPost_ret (results_tmp3 rfl _ _) rfl ⟨rfl,Ext.refl _ _⟩
def nvs (p:Num):Array Value:=#[.int .i64 (p.kind:Nat),.bool p.neg,.string (S p.a),.string (S p.b)]
def nv (p:Num):Value:=.agg (nvs p)
theorem stcut_walk (s:ByteArray) (w:World) (hs:s.size≤9223372036854775807) :
  Calls Tryz.prog 177 #[.string s,.string ⟨#[46]⟩] w fun e w'=>e=.returned (.tuple #[.string (S (befL (B s))),.string (S (aftL (B s))),.bool (hasL (B s))])∧Ext [] w w':=by
 have H:=zz (slcut_walk s w hs)
 go_enter Tryz.func177,Tryz.ntmps177
 go_wp2_with fail
 refine H.out.mono ?_
 rintro e w1 ⟨rfl,hx⟩
 have HX:=zz hx
 clear hx
 go_wp2_with fail
 exact bodyPost_ret (results_tmp3 rfl _ _) rfl ⟨rfl,HX.out⟩
theorem results_cell1 {P:Program} {fn:Func} {p:Tmp} {t:TypeId} (h:fn.results=#[.cell p t]) (tmps:Array Value) (w:World) (g:Nat) (v:Value) (h1:tmps.getD p undef=.pointer (some ⟨g,0,none⟩)) (hl:(loadVar t ⟨g,0,none⟩).run P w=.ok v w) :
  (results fn tmps).run P w=.ok v w:=by
 have e1:tmps[p]?.getD undef=.pointer (some ⟨g,0,none⟩):=by simpa using h1
 simp [results,h,e1,asAddr,hl]
theorem take_le (l:List UInt8):(befL l).length≤l.length:=by
 unfold befL
 exact (List.takeWhile_sublist _).length_le
theorem bef_sum (l:List UInt8):(befL l).length+(aftL l).length≤l.length:=by
 unfold befL aftL
 have h:=List.takeWhile_append_dropWhile (p:=(· != 46)) (l:=l)
 have h2:=congrArg List.length h
 rw [List.length_append] at h2
 rw [List.length_drop]
 omega
theorem aft_le (l:List UInt8):(aftL l).length≤l.length:=by
 unfold aftL
 rw [List.length_drop]
 have:=(List.dropWhile_sublist (l:=l) (· != 46)).length_le
 omega
theorem alloc2 (w:World) (o o' : Obj):((w.alloc o).alloc o').heap[w.heap.size+1]? = some o':=by
 have h:=heap_alloc_at (w:=w.alloc o) o'
 rw [show (w.alloc o).heap.size=w.heap.size+1 by simp] at h
 exact h
theorem head_parts (s:ByteArray):(s.size=0∧B s=[]∧s.toList.isEmpty=true)∨(s.toList.isEmpty=false∧∃ (h:0<s.size) (x:Nat) (t:List UInt8),(s[0]'h).toNat=x∧x<256∧B s=UInt8.ofNat x::t∧s.extract 1 s.size=S t):=by
 by_cases h0:s.size=0
 ·have hB:B s=[]:=List.eq_nil_of_length_eq_zero h0
  refine .inl ⟨h0,hB,?_⟩
  rw [ByteArray.toList_eq,show s.data.toList=[] from hB]
  rfl
 ·refine .inr ⟨?_,by omega,?_⟩
  ·rw [ByteArray.toList_eq]
   cases h:s.data.toList with
   | nil=>exact absurd (show (B s).length=0 by unfold B; rw [h]; rfl) h0
   | cons a l=>rfl
  ·cases h:B s with
   | nil=>exact absurd (show (B s).length=0 by rw [h]; rfl) h0
   | cons a l=>
    refine⟨a.toNat,l,?_,a.toNat_lt,by simp,?_⟩
    ·have h2:=B_at s 0 (by omega)
     rw [List.drop_zero,h] at h2
     rw [(List.cons.inj h2).1]
    ·rw [S_tail,h]
     rfl
theorem infoParts:(Tryz.prog.info? 212).map (·.size)=some 4:=by kernel_rfl
theorem load_parts {W:World} {g:Nat} {p:Num} {t:TypeId} {fr:Nat×Nat} (h:W.heap[g]? = some (.cells (nvs p) t fr)):(loadVar 212 ⟨g,0,none⟩).run Tryz.prog W=.ok (nv p) W:=
 run_loadVar_row W g t 212 (nvs p) fr _ h Tryz.underlying212 rfl infoParts
def set4 (W:World) (g:Nat) (p:Num):World:=(((W.setCell ⟨g,0,none⟩ (.int .i64 (p.kind:Nat))).setCell ⟨g,1,none⟩ (.bool p.neg)).setCell ⟨g,2,none⟩ (.string (S p.a))).setCell ⟨g,3,none⟩ (.string (S p.b))
theorem set4_heap {W:World} {g:Nat} {p q:Num} {t:TypeId} (h:W.heap[g]? = some (.cells (nvs q) t (0,0))):(set4 W g p).heap[g]? = some (.cells (nvs p) t (0,0)):=by
 unfold set4
 rw [heap_setCell_same (heap_setCell_same (heap_setCell_same (heap_setCell_same h _) _) _) _]
 rfl
theorem set4_ext (W:World) (g:Nat) (p:Num):Ext [g] W (set4 W g p):=
 ((((Ext.refl [g] W).setCell ⟨g,0,none⟩ _ (.inl (by simp))).setCell ⟨g,1,none⟩ _ (.inl (by simp))).setCell ⟨g,2,none⟩ _ (.inl (by simp))).setCell ⟨g,3,none⟩ _ (.inl (by simp))
theorem set4_sep {w W:World} {L:List Ob} {g:Nat} {q p:Num} {t:TypeId} (S:Sep w W L) (i:Nat) (hi:L[i]? = some (Ob.one g (.cells (nvs q) t (0,0)))):Sep w (set4 W g p) (L.set i (Ob.one g (.cells (nvs p) t (0,0)))):=
 S.upd i (Ob.one g (.cells (nvs p) t (0,0))) hi (set4_ext W g p) (Fr.refl _ _) (set4_heap (S.get i hi))
theorem ret_parts {fn:Func} {q:Tmp} {t:TypeId} (h:fn.results=#[.cell q 212]) (tmps:Array Value) (W:World) (g:Nat) (p p0:Num) (h1:tmps.getD q undef=.pointer (some ⟨g,0,none⟩)) (hg:W.heap[g]? = some (.cells (nvs p0) t (0,0))) :
  (results fn tmps).run Tryz.prog (set4 W g p)=.ok (nv p) (set4 W g p):=
 results_cell1 h tmps _ g _ h1 (load_parts (set4_heap hg))
theorem cut_walk (s:ByteArray) (w:World) (hs:s.size≤9223372036854775807) :
  Calls Tryz.prog 163 #[.string s] w fun e w'=>e=.returned (nv (cutN (B s)))∧Ext [] w w':=by
 obtain⟨r,hr⟩:∃ r,sgnR (B s)=r:=⟨_,rfl⟩
 obtain⟨ng,hng⟩:∃ ng,sgnB (B s)=ng:=⟨_,rfl⟩
 obtain⟨R,hR⟩:∃ R,cutN (B s)=R:=⟨_,rfl⟩
 rw [hR]
 unfold cutN at hR
 rw [hr,hng] at hR
 have hrl:r.length≤s.size:=by
  rw [←hr]
  unfold sgnR
  split
  ·rw [List.length_drop,B_len]; omega
  ·rw [B_len]; exact Nat.le_refl _
 have HR:=zz hR
 have HSG:=zz2 ⟨hr,hng⟩
 obtain⟨sg,hsg⟩:∃ sg:Bool,decide ((B s).head? = some 43∨(B s).head? = some 45)=sg:=⟨_,rfl⟩
 have HS:=zz hsg
 clear hR hr hng hsg
 have HHD:=zz (head_parts s)
 go_enter Tryz.func163,Tryz.ntmps163
 go_upto_region 2 with fail
 go_cut [17] from 6 to 17 (fun c wx=>c=.bool sg∧wx=(w.alloc (.cells #[.int .i64 0,.bool false,.string ⟨#[]⟩,.string ⟨#[]⟩] 212)).alloc (.cells #[.int .i64 1,.bool false,.string ⟨#[]⟩,.string ⟨#[]⟩] 212))
 case first=>
  rcases HHD.out with ⟨h0,hB,he⟩ | ⟨he,h0,x,t,hx0,hx,hB,hT⟩
  ·have hsg:=HS.out
   rw [hB] at hsg
   obtain rfl:false=sg:=hsg
   clear h0 hB HR HS
   go_wp2_with fail
   go_meet
   exact⟨rfl,rfl⟩
  ·have h0z:(0:Int)<(s.size:Int):=by omega
   have hsg:=HS.out
   rw [hB,List.head?_cons] at hsg
   by_cases x1:x=43
   ·subst x1
    obtain rfl:true=sg:=by rw [←hsg]; rfl
    clear hsg hB hT HR HS
    go_wp2_with fail
    go_meet
    exact⟨rfl,rfl⟩
   ·by_cases x2:x=45
    ·subst x2
     obtain rfl:true=sg:=by rw [←hsg]; rfl
     clear hsg hB hT HR HS
     go_wp2_with fail
     go_meet
     exact⟨rfl,rfl⟩
    ·have d1:((x:Int)==43)=false:=beq_eq_false_iff_ne.2 (by omega)
     have d2:((x:Int)==45)=false:=beq_eq_false_iff_ne.2 (by omega)
     obtain rfl:false=sg:=by
      rw [←hsg]
      refine (decide_eq_false (fun h=>?_)).symm
      rcases h with h | h
      ·have:=congrArg UInt8.toNat (Option.some.inj h)
       simp at this
       omega
      ·have:=congrArg UInt8.toNat (Option.some.inj h)
       simp at this
       omega
     clear hsg hB hT HR HS x1 x2
     go_wp2_with fail
     go_meet
     exact⟨rfl,rfl⟩
 case rest=>
  obtain⟨rfl,rfl⟩:=hcut
  go_upto_if 17 with fail
  go_cut [0] from 18 to 24 (fun c wx=>c=.string (S r)∧Sep w wx [Ob.one (w.heap.size+1) (.cells (nvs ⟨1,ng,[],[]⟩) 212 (0,0)),Ob.one w.heap.size (.cells (nvs ⟨0,false,[],[]⟩) 212 (0,0))])
  case first=>
   have HST:=zz (fun (x:Num)=>((Sep.start w).new ((Ext.refl _ w).alloc (.cells (nvs ⟨0,false,[],[]⟩) 212)) (Ob.one w.heap.size (.cells (nvs ⟨0,false,[],[]⟩) 212 (0,0))) (heap_alloc_at _) (fun q hq=>by rw [List.mem_singleton.1 hq]; exact Nat.le_refl _)).new ((Ext.refl _ _).alloc (.cells (nvs x) 212)) (Ob.one (w.heap.size+1) (.cells (nvs x) 212 (0,0))) (alloc2 _ _ _) (fun q hq=>by rw [List.mem_singleton.1 hq]; simp))
   cases sg with
   | false=>
    obtain⟨rfl,rfl⟩:B s=r∧false=ng:=by
     obtain⟨h1,h2⟩:=HSG.out
     have h3:=of_decide_eq_false HS.out
     rw [←h1,←h2]
     refine⟨?_,?_⟩
     ·unfold sgnR
      rw [if_neg h3]
     ·unfold sgnB
      exact (beq_eq_false_iff_ne.2 (fun h=>h3 (.inr h))).symm
    clear HHD HR HS HSG
    go_wp2_with fail
    go_meet
    exact⟨congrArg Value.string (S_B s).symm,HST.out ⟨1,false,[],[]⟩⟩
   | true=>
    rcases HHD.out with ⟨h0,hB,he⟩ | ⟨he,h0,x,t,hx0,hx,hB,hT⟩
    ·exact absurd (of_decide_eq_true HS.out) (by rw [hB]; simp)
    ·have h0z:(0:Int)<(s.size:Int):=by omega
     have h1z:(1:Int)≤(s.size:Int):=by omega
     have h3:=of_decide_eq_true HS.out
     have hb:((x:Int)==45)=ng:=by
      rw [←HSG.out.2]
      unfold sgnB
      rw [hB,List.head?_cons]
      by_cases x2:x=45
      ·subst x2; rfl
      ·rw [beq_eq_false_iff_ne.2 (show (x:Int)≠45 by omega)]
       refine (beq_eq_false_iff_ne.2 (fun h=>?_)).symm
       have:=congrArg UInt8.toNat (Option.some.inj h)
       simp at this
       omega
     have ht:S t=S r:=by
      rw [←HSG.out.1]
      unfold sgnR
      rw [if_pos h3,hB]
      rfl
     rw [ht] at hT
     have HT:=zz hT
     clear h3 hB hT ht HR HS HSG
     go_wp2_with fail
     go_region
     go_wp2_with fail
     go_meet
     exact⟨congrArg Value.string HT.out,(HST.out ⟨1,ng,[],[]⟩).quiet ((Ext.refl _ _).drew)⟩
  case rest=>
   obtain⟨rfl,hS⟩:=hcut
   obtain⟨g,hg⟩:∃ g,w.heap.size=g:=⟨_,rfl⟩
   rw [hg] at hS ⊢
   have HS:=zz hS
   clear hS hg HHD HSG
   go_wp2_with fail
   refine (stcut_walk (S r) wc (by rw [S_size]; omega)).mono ?_
   rw [B_S]
   rintro e w5 ⟨rfl,hx⟩
   have HS:=zz (HS.out.quiet hx)
   clear hx
   have h0:=HS.out.get 0 rfl
   have c0:w5.cell? ⟨g+1,0,none⟩=some (.int .i64 1):=cellOf h0 0
   have c1:w5.cell? ⟨g+1,1,none⟩=some (.bool ng):=cellOf h0 1
   have c2:w5.cell? ⟨g+1,2,none⟩=some (.string (S [])):=cellOf h0 2
   have c3:w5.cell? ⟨g+1,3,none⟩=some (.string (S [])):=cellOf h0 3
   have f0:w5.frozen? ⟨g+1,0,none⟩=false:=freeOf h0 0
   have f1:w5.frozen? ⟨g+1,1,none⟩=false:=freeOf h0 1
   have f2:w5.frozen? ⟨g+1,2,none⟩=false:=freeOf h0 2
   have f3:w5.frozen? ⟨g+1,3,none⟩=false:=freeOf h0 3
   clear h0
   generalize hbf:befL r=bf
   generalize haf:aftL r=af
   have hlb:bf.length≤9223372036854775807:=by rw [←hbf]; have:=take_le r; omega
   have hla:af.length≤9223372036854775807:=by rw [←haf]; have:=aft_le r; omega
   have hR:=HR.out
   unfold goodL at hR
   rw [hbf,haf] at hR
   have HDB:=zz (fun w=>digits_walk (S bf) w (by rw [S_size]; omega))
   have HDA:=zz (fun w=>digits_walk (S af) w (by rw [S_size]; omega))
   rw [B_S] at HDB HDA
   have HCAT:=zz (S_app bf af)
   have hsb:(S bf).size≤9223372036854775807:=by rw [S_size]; omega
   have hsa:(S af).size≤9223372036854775807:=by rw [S_size]; omega
   have hem:(S bf++S af).toList.isEmpty=(bf++af).isEmpty:=by rw [ByteArray.toList_eq,S_app]; rfl
   have hsum:(S bf).size+(S af).size≤9223372036854775807:=by rw [S_size,S_size,←hbf,←haf]; have:=bef_sum r; omega
   have hsumz:((S bf).size:Int)+((S af).size:Int)≤9223372036854775807:=by omega
   clear hbf haf HR hrl hlb hla
   cases hh:hasL r with
   | true=>
    rw [hh] at hR
    clear hh
    have h6:(((w5.setCell ⟨g+1,2,none⟩ (.string (S bf))).setCell ⟨g+1,3,none⟩ (.string (S af))).setCell ⟨g+1,0,none⟩ (.int .i64 2)).heap[g+1]? = some (.cells (nvs ⟨2,ng,bf,af⟩) 212 (0,0)):=by
     have h1:=HS.out.get 0 rfl
     have h2:=heap_setCell_same (i:=2) h1 (.string (S bf))
     have h3:=heap_setCell_same (i:=3) h2 (.string (S af))
     have h4:=heap_setCell_same (i:=0) h3 (.int .i64 2)
     exact h4
    have S1:=HS.out.upd 0 (Ob.one (g+1) (.cells (nvs ⟨2,ng,bf,af⟩) 212 (0,0))) rfl ((((Ext.refl [g+1] w5).setCell ⟨g+1,2,none⟩ (.string (S bf)) (.inl (by simp))).setCell ⟨g+1,3,none⟩ (.string (S af)) (.inl (by simp))).setCell ⟨g+1,0,none⟩ (.int .i64 2) (.inl (by simp))) (Fr.refl _ _) h6
    obtain⟨W6,hW6⟩:∃ W6,((w5.setCell ⟨g+1,2,none⟩ (.string (S bf))).setCell ⟨g+1,3,none⟩ (.string (S af))).setCell ⟨g+1,0,none⟩ (.int .i64 2)=W6:=⟨_,rfl⟩
    rw [hW6] at S1 h6
    have HS6:=zz S1
    clear S1
    have hg0:=HS6.out.get 1 rfl
    have c2b:W6.cell? ⟨g+1,2,none⟩=some (.string (S bf)):=cellOf h6 2
    have c3b:W6.cell? ⟨g+1,3,none⟩=some (.string (S af)):=cellOf h6 3
    have c0b:W6.cell? ⟨g+1,0,none⟩=some (.int .i64 2):=cellOf h6 0
    have c1b:W6.cell? ⟨g+1,1,none⟩=some (.bool ng):=cellOf h6 1
    have d0:W6.cell? ⟨g,0,none⟩=some (.int .i64 0):=cellOf hg0 0
    have d1:W6.cell? ⟨g,1,none⟩=some (.bool false):=cellOf hg0 1
    have d2:W6.cell? ⟨g,2,none⟩=some (.string (S [])):=cellOf hg0 2
    have d3:W6.cell? ⟨g,3,none⟩=some (.string (S [])):=cellOf hg0 3
    have e0:W6.frozen? ⟨g,0,none⟩=false:=freeOf hg0 0
    have e1:W6.frozen? ⟨g,1,none⟩=false:=freeOf hg0 1
    have e2:W6.frozen? ⟨g,2,none⟩=false:=freeOf hg0 2
    have e3:W6.frozen? ⟨g,3,none⟩=false:=freeOf hg0 3
    go_wp2_with fail
    clear hW6 c0 c1 c2 c3 f0 f1 f2 f3 HS
    refine (HDB.out _).mono ?_
    rintro e w7 ⟨rfl,rfl⟩
    clear HDB
    cases hdb:bf.all digB with
    | false=>
     rw [hdb] at hR
     obtain rfl:(⟨0,false,[],[]⟩:Num)=R:=hR
     have HF:=zz (set4_sep (p:=⟨0,false,[],[]⟩) HS6.out 1 rfl).ext
     have HG:=zz hg0
     go_wp2_with fail
     exact bodyPost_ret (ret_parts rfl _ W6 g ⟨0,false,[],[]⟩ _ rfl HG.out) rfl ⟨rfl,HF.out⟩
    | true=>
     rw [hdb] at hR
     go_wp2_with fail
     refine (HDA.out _).mono ?_
     rintro e w7 ⟨rfl,rfl⟩
     clear HDA
     cases hda:af.all digB with
     | false=>
      rw [hda] at hR
      obtain rfl:(⟨0,false,[],[]⟩:Num)=R:=hR
      have HF:=zz (set4_sep (p:=⟨0,false,[],[]⟩) HS6.out 1 rfl).ext
      have HG:=zz hg0
      go_wp2_with fail
      exact bodyPost_ret (ret_parts rfl _ W6 g ⟨0,false,[],[]⟩ _ rfl HG.out) rfl ⟨rfl,HF.out⟩
     | true=>
      rw [hda] at hR
      cases hme:(bf++af).isEmpty with
      | true=>
       rw [hme] at hR hem
       obtain rfl:(⟨0,false,[],[]⟩:Num)=R:=hR
       have HF:=zz (set4_sep (p:=⟨0,false,[],[]⟩) HS6.out 1 rfl).ext
       have HG:=zz hg0
       go_wp2_with fail
       exact bodyPost_ret (ret_parts rfl _ W6 g ⟨0,false,[],[]⟩ _ rfl HG.out) rfl ⟨rfl,HF.out⟩
      | false=>
       rw [hme] at hR hem
       obtain rfl:(⟨2,ng,bf,af⟩:Num)=R:=hR
       have HF:=zz (set4_sep (p:=⟨2,ng,bf,af⟩) HS6.out 1 rfl).ext
       have HG:=zz hg0
       go_wp2_with fail
       exact bodyPost_ret (ret_parts rfl _ W6 g ⟨2,ng,bf,af⟩ _ rfl HG.out) rfl ⟨rfl,HF.out⟩
   | false=>
    rw [hh] at hR
    clear hh
    have h6:((w5.setCell ⟨g+1,2,none⟩ (.string (S bf))).setCell ⟨g+1,3,none⟩ (.string (S af))).heap[g+1]? = some (.cells (nvs ⟨1,ng,bf,af⟩) 212 (0,0)):=by
     have h1:=HS.out.get 0 rfl
     have h2:=heap_setCell_same (i:=2) h1 (.string (S bf))
     have h3:=heap_setCell_same (i:=3) h2 (.string (S af))
     exact h3
    have S1:=HS.out.upd 0 (Ob.one (g+1) (.cells (nvs ⟨1,ng,bf,af⟩) 212 (0,0))) rfl ((((Ext.refl [g+1] w5).setCell ⟨g+1,2,none⟩ (.string (S bf)) (.inl (by simp))).setCell ⟨g+1,3,none⟩ (.string (S af)) (.inl (by simp)))) (Fr.refl _ _) h6
    obtain⟨W6,hW6⟩:∃ W6,(w5.setCell ⟨g+1,2,none⟩ (.string (S bf))).setCell ⟨g+1,3,none⟩ (.string (S af))=W6:=⟨_,rfl⟩
    rw [hW6] at S1 h6
    have HS6:=zz S1
    clear S1
    have hg0:=HS6.out.get 1 rfl
    have c2b:W6.cell? ⟨g+1,2,none⟩=some (.string (S bf)):=cellOf h6 2
    have c3b:W6.cell? ⟨g+1,3,none⟩=some (.string (S af)):=cellOf h6 3
    have c0b:W6.cell? ⟨g+1,0,none⟩=some (.int .i64 1):=cellOf h6 0
    have c1b:W6.cell? ⟨g+1,1,none⟩=some (.bool ng):=cellOf h6 1
    have d0:W6.cell? ⟨g,0,none⟩=some (.int .i64 0):=cellOf hg0 0
    have d1:W6.cell? ⟨g,1,none⟩=some (.bool false):=cellOf hg0 1
    have d2:W6.cell? ⟨g,2,none⟩=some (.string (S [])):=cellOf hg0 2
    have d3:W6.cell? ⟨g,3,none⟩=some (.string (S [])):=cellOf hg0 3
    have e0:W6.frozen? ⟨g,0,none⟩=false:=freeOf hg0 0
    have e1:W6.frozen? ⟨g,1,none⟩=false:=freeOf hg0 1
    have e2:W6.frozen? ⟨g,2,none⟩=false:=freeOf hg0 2
    have e3:W6.frozen? ⟨g,3,none⟩=false:=freeOf hg0 3
    go_wp2_with fail
    clear hW6 c0 c1 c2 c3 f0 f1 f2 f3 HS
    refine (HDB.out _).mono ?_
    rintro e w7 ⟨rfl,rfl⟩
    clear HDB
    cases hdb:bf.all digB with
    | false=>
     rw [hdb] at hR
     obtain rfl:(⟨0,false,[],[]⟩:Num)=R:=hR
     have HF:=zz (set4_sep (p:=⟨0,false,[],[]⟩) HS6.out 1 rfl).ext
     have HG:=zz hg0
     go_wp2_with fail
     exact bodyPost_ret (ret_parts rfl _ W6 g ⟨0,false,[],[]⟩ _ rfl HG.out) rfl ⟨rfl,HF.out⟩
    | true=>
     rw [hdb] at hR
     go_wp2_with fail
     refine (HDA.out _).mono ?_
     rintro e w7 ⟨rfl,rfl⟩
     clear HDA
     cases hda:af.all digB with
     | false=>
      rw [hda] at hR
      obtain rfl:(⟨0,false,[],[]⟩:Num)=R:=hR
      have HF:=zz (set4_sep (p:=⟨0,false,[],[]⟩) HS6.out 1 rfl).ext
      have HG:=zz hg0
      go_wp2_with fail
      exact bodyPost_ret (ret_parts rfl _ W6 g ⟨0,false,[],[]⟩ _ rfl HG.out) rfl ⟨rfl,HF.out⟩
     | true=>
      rw [hda] at hR
      cases hme:(bf++af).isEmpty with
      | true=>
       rw [hme] at hR hem
       obtain rfl:(⟨0,false,[],[]⟩:Num)=R:=hR
       have HF:=zz (set4_sep (p:=⟨0,false,[],[]⟩) HS6.out 1 rfl).ext
       have HG:=zz hg0
       go_wp2_with fail
       exact bodyPost_ret (ret_parts rfl _ W6 g ⟨0,false,[],[]⟩ _ rfl HG.out) rfl ⟨rfl,HF.out⟩
      | false=>
       rw [hme] at hR hem
       obtain rfl:(⟨1,ng,bf,af⟩:Num)=R:=hR
       have HF:=zz (set4_sep (p:=⟨1,ng,bf,af⟩) HS6.out 1 rfl).ext
       have HG:=zz hg0
       go_wp2_with fail
       exact bodyPost_ret (ret_parts rfl _ W6 g ⟨1,ng,bf,af⟩ _ rfl HG.out) rfl ⟨rfl,HF.out⟩
theorem load_parts_ex {w:World} {g:Nat} {p:Num} {t:TypeId} {fr:Nat×Nat} (h:w.heap[g]? = some (.cells (nvs p) t fr)) (y:Ex w):y.w.heap[g]? = some (.cells (nvs p) t fr):=y.ext.keep h (by simp)
theorem long_walk (p:Num) (w:World) (ha:p.a.length≤1048576) (hb:p.b.length≤1048576) :
  Calls Tryz.prog 164 #[nv p] w fun e w'=>e=.returned (.bool (longN p))∧Ext [] w w':=by
 obtain⟨k,ng,a,b⟩:=p
 show Calls Tryz.prog 164 #[.agg #[.int .i64 (k:Nat),.bool ng,.string (S a),.string (S b)]] w fun e w'=>e=.returned (.bool (decide (64<a.length+b.length)))∧Ext [] w w'
 have hz:decide ((64:Int)<(a.length:Int)+(b.length:Int))=decide (64<a.length+b.length):=by
  by_cases h:64<a.length+b.length
  ·rw [decide_eq_true h,decide_eq_true (by omega)]
  ·rw [decide_eq_false h,decide_eq_false (by omega)]
 have HX:=zz (fun o=>(Ext.refl [] w).alloc o)
 have hw:wrap64 ((a.length:Int)+(b.length:Int))=(a.length:Int)+(b.length:Int):=by
  have h1:a.length≤1048576:=ha
  have h2:b.length≤1048576:=hb
  unfold wrap64
  omega
 have hv:Value.bool (decide ((64:Int)<wrap64 ((a.length:Int)+(b.length:Int))))=.bool (decide (64<a.length+b.length)):=by rw [hw,hz]
 have HV:=zz hv
 clear hw hv hz
 go_enter Tryz.func164,Tryz.ntmps164
 go_wp2_with fail
 go_ret
 exact⟨congrArg Ending.returned HV.out,HX.out _⟩
theorem upd3 {w W:World} {L:List Ob} {g:Nat} {k:Nat} {ng v:Bool} {a b ta tb:List UInt8} {t:TypeId} (S:Sep w W L) (i:Nat) (hi:L[i]? = some (Ob.one g (.cells (nvs ⟨k,ng,a,b⟩) t (0,0)))) :
  Sep w (((W.setCell ⟨g,2,none⟩ (.string (Nu.S ta))).setCell ⟨g,3,none⟩ (.string (Nu.S tb))).setCell ⟨g,1,none⟩ (.bool v)) (L.set i (Ob.one g (.cells (nvs ⟨k,v,ta,tb⟩) t (0,0)))):=by
 refine S.upd i (Ob.one g (.cells (nvs ⟨k,v,ta,tb⟩) t (0,0))) hi ((((Ext.refl [g] W).setCell ⟨g,2,none⟩ _ (.inl (by simp))).setCell ⟨g,3,none⟩ _ (.inl (by simp))).setCell ⟨g,1,none⟩ _ (.inl (by simp))) (Fr.refl _ _) ?_
 have h:=S.get i hi
 show _=_
 rw [heap_setCell_same (heap_setCell_same (heap_setCell_same h _) _) _]
 rfl
theorem bare_walk (p:Num) (w:World) (ha:p.a.length≤1048576) (hb:p.b.length≤1048576) :
  Calls Tryz.prog 165 #[nv p] w fun e w'=>e=.returned (nv (bareN p))∧Ext [] w w':=by
 obtain⟨k,ng,a,b⟩:=p
 have HL:=zz (fun w=>Tryz.strings_TrimLeft_one (S a) 48 (by decide) w)
 have HR:=zz (fun w=>Tryz.strings_TrimRight_one (S b) 48 (by decide) w (by rw [S_size]; exact Nat.le_trans hb (by decide)))
 have hR:bareN ⟨k,ng,a,b⟩=⟨k,ng && !(tl a++tr b).isEmpty,tl a,tr b⟩:=rfl
 have hla:(tl a).length≤1048576:=Nat.le_trans (List.dropWhile_sublist _).length_le ha
 have hlb:(tr b).length≤1048576:=by
  unfold tr Lib.trimRightB
  rw [List.length_reverse]
  refine Nat.le_trans (List.dropWhile_sublist _).length_le ?_
  rw [List.length_reverse]
  exact hb
 rw [hR]
 replace HL:=zz (show ∀ w,Calls Tryz.prog 179 #[.string (S a),.string ⟨#[48]⟩] w fun e w'=>e=.returned (.string (S (tl a)))∧w' = w from HL.out)
 replace HR:=zz (show ∀ w,Calls Tryz.prog 180 #[.string (S b),.string ⟨#[48]⟩] w fun e w'=>e=.returned (.string (S (tr b)))∧w' = w from HR.out)
 generalize tl a=ta at *
 generalize tr b=tb at *
 have hem:(S ta++S tb).toList.isEmpty=(ta++tb).isEmpty:=by rw [ByteArray.toList_eq,S_app]; rfl
 generalize (ta++tb).isEmpty=em at *
 have hsa:(S ta).size≤1048576:=by rw [S_size]; exact hla
 have hsb:(S tb).size≤1048576:=by rw [S_size]; exact hlb
 show Calls Tryz.prog 165 #[.agg #[.int .i64 (k:Nat),.bool ng,.string (S a),.string (S b)]] w _
 go_enter Tryz.func165,Tryz.ntmps165
 go_wp2_with fail
 obtain⟨g,hg⟩:∃ g,w.heap.size=g:=⟨_,rfl⟩
 have S0:=((Sep.start w).new ((Ext.refl _ w).alloc (.cells (nvs ⟨k,ng,a,b⟩) 212)) (Ob.one w.heap.size (.cells (nvs ⟨k,ng,a,b⟩) 212 (0,0))) (heap_alloc_at _) (fun q hq=>by rw [List.mem_singleton.1 hq]; exact Nat.le_refl _)).new ((Ext.refl _ _).alloc (.cells (nvs ⟨0,false,[],[]⟩) 212)) (Ob.one (w.heap.size+1) (.cells (nvs ⟨0,false,[],[]⟩) 212 (0,0))) (alloc2 _ _ _) (fun q hq=>by rw [List.mem_singleton.1 hq]; simp)
 obtain⟨W,hW⟩:∃ W,(w.alloc (.cells #[.int .i64 (k:Nat),.bool ng,.string (S a),.string (S b)] 212)).alloc (.cells #[.int .i64 0,.bool false,.string ⟨#[]⟩,.string ⟨#[]⟩] 212)=W:=⟨_,rfl⟩
 replace S0:Sep w W [Ob.one (w.heap.size+1) (.cells (nvs ⟨0,false,[],[]⟩) 212 (0,0)),Ob.one w.heap.size (.cells (nvs ⟨k,ng,a,b⟩) 212 (0,0))]:=by rw [←hW]; exact S0
 rw [hW]
 rw [hg] at S0 ⊢
 have HS:=zz S0
 clear S0 hW hg hR
 have h0:=HS.out.get 1 rfl
 have c1:∀ y:Ex W,y.w.cell? ⟨g,1,none⟩=some (.bool ng):=fun y=>cellOf (load_parts_ex h0 y) 1
 have c2:∀ y:Ex W,y.w.cell? ⟨g,2,none⟩=some (.string (S a)):=fun y=>cellOf (load_parts_ex h0 y) 2
 have c3:∀ y:Ex W,y.w.cell? ⟨g,3,none⟩=some (.string (S b)):=fun y=>cellOf (load_parts_ex h0 y) 3
 refine wp_region_quiet_tail (C:=fun w'=>∃ x:Ex W,w' = x.w) 7 (by kernel_rfl) (by kernel_rfl) ⟨Ex.mk _ ((Ext.refl [] W).drew),rfl⟩ ?_
 simp only [List.take_succ_cons,List.take_zero,List.drop_succ_cons,List.drop_zero]
 repeat (go_big_quiet_step (first | (go_at_call 179; refine Calls.ext_of ((HL.out _).mono (fun e w' h=>⟨h.1,h.2 ▸ Ext.refl _ _⟩))) | (go_at_call 180; refine Calls.ext_of ((HR.out _).mono (fun e w' h=>⟨h.1,h.2 ▸ Ext.refl _ _⟩)))))
 refine wpQuiet_nil ?_
 rintro _ ⟨y,rfl⟩
 clear c1 c2 c3 h0
 obtain⟨W1,hW1⟩:∃ W1,y.w=W1:=⟨_,rfl⟩
 have hx1:=y.ext
 rw [hW1] at hx1
 rw [hW1]
 have HS:=zz (HS.out.quiet hx1)
 clear hx1 hW1 y HL HR
 have h1:=HS.out.get 1 rfl
 have h2:=HS.out.get 0 rfl
 have c0:W1.cell? ⟨g,0,none⟩=some (.int .i64 (k:Nat)):=cellOf h1 0
 have c1:W1.cell? ⟨g,1,none⟩=some (.bool ng):=cellOf h1 1
 have c2:W1.cell? ⟨g,2,none⟩=some (.string (S a)):=cellOf h1 2
 have c3:W1.cell? ⟨g,3,none⟩=some (.string (S b)):=cellOf h1 3
 have f1:W1.frozen? ⟨g,1,none⟩=false:=freeOf h1 1
 have f2:W1.frozen? ⟨g,2,none⟩=false:=freeOf h1 2
 have f3:W1.frozen? ⟨g,3,none⟩=false:=freeOf h1 3
 have d0:W1.cell? ⟨g+1,0,none⟩=some (.int .i64 0):=cellOf h2 0
 have d1:W1.cell? ⟨g+1,1,none⟩=some (.bool false):=cellOf h2 1
 have d2:W1.cell? ⟨g+1,2,none⟩=some (.string (S [])):=cellOf h2 2
 have d3:W1.cell? ⟨g+1,3,none⟩=some (.string (S [])):=cellOf h2 3
 have e0:W1.frozen? ⟨g+1,0,none⟩=false:=freeOf h2 0
 have e1:W1.frozen? ⟨g+1,1,none⟩=false:=freeOf h2 1
 have e2:W1.frozen? ⟨g+1,2,none⟩=false:=freeOf h2 2
 have e3:W1.frozen? ⟨g+1,3,none⟩=false:=freeOf h2 3
 cases ng with
 | true=>
  have S2:=upd3 (v:=!em) (ta:=ta) (tb:=tb) HS.out 1 rfl
  have HF:=zz (set4_sep (p:=⟨k,!em,ta,tb⟩) S2 0 rfl).ext
  have HG:=zz (S2.get 0 rfl)
  clear S2 h1 h2
  go_wp2_with fail
  exact bodyPost_ret (ret_parts rfl _ _ (g+1) ⟨k,!em,ta,tb⟩ _ rfl HG.out) rfl ⟨rfl,HF.out⟩
 | false=>
  have S2:=upd3 (v:=false) (ta:=ta) (tb:=tb) HS.out 1 rfl
  have HF:=zz (set4_sep (p:=⟨k,false,ta,tb⟩) S2 0 rfl).ext
  have HG:=zz (S2.get 0 rfl)
  clear S2 h1 h2
  go_wp2_with fail
  exact bodyPost_ret (ret_parts rfl _ _ (g+1) ⟨k,false,ta,tb⟩ _ rfl HG.out) rfl ⟨rfl,HF.out⟩
theorem orStr_walk (a:List UInt8) (g:Nat) (w:World) (h0:w.cell? ⟨g,0,none⟩=some (.string (S a))) (h1:w.cell? ⟨g,1,none⟩=some (.string ⟨#[48]⟩)) :
  Calls Tryz.prog 166 #[.slice (some ⟨g,0,none⟩) 2 2] w fun e w'=>e=.returned (.string (S (orS a)))∧w=w':=by
 cases hE:a.isEmpty with
 | true=>
  have ho:S (orS a)=(⟨#[48]⟩:ByteArray):=by unfold orS; rw [hE]; rfl
  obtain rfl:a=[]:=List.isEmpty_iff.1 hE
  rw [ho]
  clear hE ho
  replace h0:w.cell? ⟨g,0,none⟩=some (.string ⟨#[]⟩):=h0
  go_enter Tryz.func166,Tryz.ntmps166
  go_wp2_with fail
  go_loopg [5,8] 2 (fun g' nv iv wr=>(g' = 2∧iv=.int .i64 0∨g' = 1∧iv=.int .i64 1)∧wr=w)
  case atStart=>exact⟨.inl ⟨rfl,rfl⟩,rfl⟩
  case round=>
   obtain⟨⟨rfl,rfl⟩ | ⟨rfl,rfl⟩,rfl⟩:=hrel
   ·go_wp2_with fail
    go_roundg 1
    case measure=>omega
    case rel=>exact⟨.inr ⟨rfl,rfl⟩,rfl⟩
   ·go_wp2_with fail
    go_ret
    exact⟨rfl,rfl⟩
 | false=>
  have ho:S (orS a)=S a:=by unfold orS; rw [hE]; rfl
  have he:(S a).toList.isEmpty=false:=by rw [ByteArray.toList_eq]; exact hE
  rw [ho]
  clear hE ho
  go_enter Tryz.func166,Tryz.ntmps166
  go_wp2_with fail
  go_loopg [5,8] 2 (fun g' nv iv wr=>(g' = 2∧iv=.int .i64 0)∧wr=w)
  case atStart=>exact⟨⟨rfl,rfl⟩,rfl⟩
  case round=>
   obtain⟨⟨rfl,rfl⟩,rfl⟩:=hrel
   go_wp2_with fail
   go_ret
   exact⟨rfl,rfl⟩
theorem cut_len (l:List UInt8):(cutN l).a.length≤l.length∧(cutN l).b.length≤l.length:=by
 have h:(sgnR l).length≤l.length:=by
  unfold sgnR
  split
  ·rw [List.length_drop]; omega
  ·exact Nat.le_refl _
 unfold cutN
 split
 ·have:=take_le (sgnR l)
  have:=aft_le (sgnR l)
  exact⟨by show (befL _).length≤_; omega,by show (aftL _).length≤_; omega⟩
 ·exact⟨Nat.zero_le _,Nat.zero_le _⟩
theorem bare_len (p:Num):(bareN p).a.length≤p.a.length∧(bareN p).b.length≤p.b.length:=by
 unfold bareN tl tr Lib.trimLeftB Lib.trimRightB
 refine⟨(List.dropWhile_sublist _).length_le,?_⟩
 show (List.reverse _).length≤_
 rw [List.length_reverse]
 refine Nat.le_trans (List.dropWhile_sublist _).length_le ?_
 rw [List.length_reverse]
 exact Nat.le_refl _
theorem nv_is (p:Num):nv p=.agg #[.int .i64 (p.kind:Nat),.bool p.neg,.string (S p.a),.string (S p.b)]:=rfl
theorem one_parts (w:World) (x:Num):Sep w (w.alloc (.cells (nvs x) 212)) [Ob.one w.heap.size (.cells (nvs x) 212 (0,0))]:=
 (Sep.start w).new ((Ext.refl _ w).alloc (.cells (nvs x) 212)) (Ob.one w.heap.size (.cells (nvs x) 212 (0,0))) (heap_alloc_at _) (fun q hq=>by rw [List.mem_singleton.1 hq]; exact Nat.le_refl _)
theorem or_len (l:List UInt8):(orS l).length≤l.length+1:=by
 unfold orS
 split
 ·simp
 ·omega
theorem upd2 {w W:World} {L:List Ob} {g:Nat} {k:Nat} {ng:Bool} {a b ta tb:List UInt8} {t:TypeId} (S:Sep w W L) (i:Nat) (hi:L[i]? = some (Ob.one g (.cells (nvs ⟨k,ng,a,b⟩) t (0,0)))) :
  Sep w ((W.setCell ⟨g,2,none⟩ (.string (Nu.S ta))).setCell ⟨g,3,none⟩ (.string (Nu.S tb))) (L.set i (Ob.one g (.cells (nvs ⟨k,ng,ta,tb⟩) t (0,0)))):=by
 refine S.upd i (Ob.one g (.cells (nvs ⟨k,ng,ta,tb⟩) t (0,0))) hi (((Ext.refl [g] W).setCell ⟨g,2,none⟩ _ (.inl (by simp))).setCell ⟨g,3,none⟩ _ (.inl (by simp))) (Fr.refl _ _) ?_
 have h:=S.get i hi
 show _=_
 rw [heap_setCell_same (heap_setCell_same h _) _]
 rfl
theorem two_cells {W V:World} {g:Nat} {a b:Value} {t:TypeId} (h:W.heap[g]? = some (.cells #[a,b] t (0,0))) (hx:Ext [] W V):V.cell? ⟨g,0,none⟩=some a∧V.cell? ⟨g,1,none⟩=some b:=
 ⟨cellOf (hx.keep h (by simp)) 0,cellOf (hx.keep h (by simp)) 1⟩
theorem real_walk (s:ByteArray) (w:World) (hs:s.size≤1000000) :
  Calls Tryz.prog 152 #[.string s] w fun e w'=>e=.returned (.tuple #[.string (S (realN (B s)).1),.int .i64 (realN (B s)).2])∧Ext [] w w':=by
 have H1:=zz (fun w=>cut_walk s w (by omega))
 have l1:=cut_len (B s)
 rw [B_len] at l1
 have hR:realN (B s)=if (cutN (B s)).kind≠2 then ([],7) else if longN (cutN (B s)) then ([],3) else if longN ⟨2,(bareN (cutN (B s))).neg,orS (bareN (cutN (B s))).a,orS (bareN (cutN (B s))).b⟩ then ([],3) else (txtN (bareN (cutN (B s))),0):=rfl
 obtain⟨r1,r2,hr⟩:∃ r1 r2,realN (B s)=(r1,r2):=⟨_,_,rfl⟩
 rw [hr] at hR ⊢
 have HR:=zz hR
 clear hR hr
 generalize cutN (B s)=x at *
 have b1:=bare_len x
 have HL1:=zz (fun w=>long_walk x w (by omega) (by omega))
 have HB1:=zz (fun w=>bare_walk x w (by omega) (by omega))
 have o1:=or_len (bareN x).a
 have o2:=or_len (bareN x).b
 have HL2:=zz (fun k w=>long_walk ⟨k,(bareN x).neg,orS (bareN x).a,orS (bareN x).b⟩ w (by show (orS _).length≤_; omega) (by show (orS _).length≤_; omega))
 generalize hlx:longN x=lx at *
 have hkb:(bareN x).kind=x.kind:=rfl
 generalize bareN x=bx at *
 obtain⟨kx,nx,ax,cx⟩:=x
 obtain⟨k3,n3,a3,c3⟩:=bx
 obtain rfl:k3=kx:=hkb
 simp only [nv_is] at H1 HL1 HB1 HL2
 have hl9:∀ k,longN ⟨k,n3,orS a3,orS c3⟩=longN ⟨2,n3,orS a3,orS c3⟩:=fun k=>rfl
 simp only [hl9] at HL2
 generalize longN ⟨2,n3,orS a3,orS c3⟩=ly at *
 have HT:txtN ⟨k3,n3,a3,c3⟩=(if n3 then [45] else [])++orS a3++[46]++orS c3:=rfl
 have HOA:=zz (fun g w h0 h1=>orStr_walk a3 g w h0 h1)
 have HOB:=zz (fun g w h0 h1=>orStr_walk c3 g w h0 h1)
 rw [HT] at HR
 have ha9:(S (orS a3)).size≤1048577:=by rw [S_size]; show (orS a3).length≤_; simp only at o1 b1 l1; omega
 have hb9:(S (orS c3)).size≤1048577:=by rw [S_size]; show (orS c3).length≤_; simp only at o2 b1 l1; omega
 generalize hoa:orS a3=oa at *
 generalize hoc:orS c3=oc at *
 obtain⟨sg,hsg⟩:∃ sg:List UInt8,(if n3 then [45] else [])=sg:=⟨_,rfl⟩
 rw [hsg] at HR
 have HSG:=zz hsg
 have hs9:(S sg).size≤1:=by rw [←hsg]; cases n3 <;> decide
 clear l1 b1 hlx HT hoa hoc o1 o2 hsg hl9
 show Calls Tryz.prog 152 #[.string s] w fun e w'=>e=.returned (.tuple #[.string (S r1),.int .i64 r2])∧Ext [] w w'
 go_enter Tryz.func152,Tryz.ntmps152
 go_wp2_with fail
 refine (H1.out _).mono ?_
 rintro e w1 ⟨rfl,hx⟩
 have HX:=zz hx
 clear hx H1
 have HS:=zz (one_parts w1 ⟨k3,nx,ax,cx⟩)
 go_upto_region 2 with fail
 obtain⟨g,hg⟩:∃ g,w1.heap.size=g:=⟨_,rfl⟩
 obtain⟨W,hW⟩:∃ W,w1.alloc (.cells #[.int .i64 (k3:Nat),.bool nx,.string (S ax),.string (S cx)] 212)=W:=⟨_,rfl⟩
 have S0:Sep w1 W [Ob.one w1.heap.size (.cells (nvs ⟨k3,nx,ax,cx⟩) 212 (0,0))]:=by rw [←hW]; exact HS.out
 rw [hW]
 rw [hg] at S0 ⊢
 have HS:=zz S0
 clear S0 hW hg
 have HFIN:=zz (fun W' (h:Ext [] w1 W')=>HX.out.trans h)
 clear HX
 have h0:=HS.out.get 0 rfl
 have p0:W.cell? ⟨g,0,none⟩=some (.int .i64 (k3:Nat)):=cellOf h0 0
 have p1:W.cell? ⟨g,1,none⟩=some (.bool nx):=cellOf h0 1
 have p2:W.cell? ⟨g,2,none⟩=some (.string (S ax)):=cellOf h0 2
 have p3:W.cell? ⟨g,3,none⟩=some (.string (S cx)):=cellOf h0 3
 by_cases hk:k3=2
 ·subst hk
  have hR:=HR.out
  rw [if_neg (by simp)] at hR
  have HR:=zz hR
  clear hR
  go_wp2_with fail
  refine (HL1.out _).mono ?_
  rintro e w3 ⟨rfl,hx⟩
  have HS:=zz (HS.out.quiet hx)
  clear hx
  clear p0 p1 p2 p3 h0
  have h0:=HS.out.get 0 rfl
  have p0:w3.cell? ⟨g,0,none⟩=some (.int .i64 2):=cellOf h0 0
  have p1:w3.cell? ⟨g,1,none⟩=some (.bool nx):=cellOf h0 1
  have p2:w3.cell? ⟨g,2,none⟩=some (.string (S ax)):=cellOf h0 2
  have p3:w3.cell? ⟨g,3,none⟩=some (.string (S cx)):=cellOf h0 3
  cases lx with
  | true=>
   obtain⟨rfl,rfl⟩:r1=[]∧r2=3:=Prod.mk.inj (HR.out.trans (if_pos rfl))
   go_wp2_with fail
   exact bodyPost_ret (results_tmp2 rfl _ _ _) rfl ⟨rfl,HFIN.out _ HS.out.ext⟩
  | false=>
   have hR:=HR.out
   rw [if_neg (by simp)] at hR
   have HR:=zz hR
   clear hR
   go_wp2_with fail
   refine (HB1.out _).mono ?_
   rintro e w4 ⟨rfl,hx⟩
   have HS:=zz (HS.out.quiet hx)
   clear hx
   clear p0 p1 p2 p3 h0
   have h0:=HS.out.get 0 rfl
   have p0:w4.cell? ⟨g,0,none⟩=some (.int .i64 2):=cellOf h0 0
   have fp0:w4.frozen? ⟨g,0,none⟩=false:=freeOf h0 0
   have p1:w4.cell? ⟨g,1,none⟩=some (.bool nx):=cellOf h0 1
   have fp1:w4.frozen? ⟨g,1,none⟩=false:=freeOf h0 1
   have p2:w4.cell? ⟨g,2,none⟩=some (.string (S ax)):=cellOf h0 2
   have fp2:w4.frozen? ⟨g,2,none⟩=false:=freeOf h0 2
   have p3:w4.cell? ⟨g,3,none⟩=some (.string (S cx)):=cellOf h0 3
   have fp3:w4.frozen? ⟨g,3,none⟩=false:=freeOf h0 3
   have S6:=set4_sep (p:=⟨2,n3,a3,c3⟩) HS.out 0 rfl
   obtain⟨W6,hW6⟩:∃ W6,set4 w4 g ⟨2,n3,a3,c3⟩=W6:=⟨_,rfl⟩
   rw [hW6] at S6
   simp only [set4] at hW6
   have HS6:=zz S6
   clear S6
   go_upto_region 8 with fail
   replace hW6:(((w4.setCell ⟨g,0,none⟩ (.int .i64 2)).setCell ⟨g,1,none⟩ (.bool n3)).setCell ⟨g,2,none⟩ (.string (S a3))).setCell ⟨g,3,none⟩ (.string (S c3))=W6:=hW6
   rw [hW6]
   clear hW6 p0 p1 p2 p3 h0 fp0 fp1 fp2 fp3
   have h6:=HS6.out.get 0 rfl
   have s0:W6.cell? ⟨g,0,none⟩=some (.int .i64 2):=cellOf h6 0
   have s1:W6.cell? ⟨g,1,none⟩=some (.bool n3):=cellOf h6 1
   have s2:W6.cell? ⟨g,2,none⟩=some (.string (S a3)):=cellOf h6 2
   have s3:W6.cell? ⟨g,3,none⟩=some (.string (S c3)):=cellOf h6 3
   go_upto_if 18 with fail
   go_cut [5] (fun c wx=>c=.string (S sg)∧wx=W6)
   case first=>
    have hsg:=HSG.out
    cases n3 with
    | true=>
     obtain rfl:[45]=sg:=hsg
     go_wp2_with fail
     go_meet
     exact⟨rfl,rfl⟩
    | false=>
     obtain rfl:[]=sg:=hsg
     go_wp2_with fail
     go_meet
     exact⟨rfl,rfl⟩
   case rest=>
   obtain⟨rfl,rfl⟩:=hcut
   clear s0 s1 s2 s3
   go_upto_region 10 with fail
   go_cut [] from 19 to 28 (fun wx=>Sep w1 wx [Ob.one g (.cells (nvs ⟨2,n3,oa,oc⟩) 212 (0,0))])
   case first=>
    have s0:∀ y:Ex wc,y.w.cell? ⟨g,0,none⟩=some (.int .i64 2):=fun y=>cellOf (load_parts_ex h6 y) 0
    have s1:∀ y:Ex wc,y.w.cell? ⟨g,1,none⟩=some (.bool n3):=fun y=>cellOf (load_parts_ex h6 y) 1
    have s2:∀ y:Ex wc,y.w.cell? ⟨g,2,none⟩=some (.string (S a3)):=fun y=>cellOf (load_parts_ex h6 y) 2
    have s3:∀ y:Ex wc,y.w.cell? ⟨g,3,none⟩=some (.string (S c3)):=fun y=>cellOf (load_parts_ex h6 y) 3
    refine wp_region_perm (C:=fun w'=>∃ x:Ex wc,w' = x.w) [0,1,4,5] 9 (by kernel_rfl) (by kernel_rfl) ⟨Ex.mk _ ((Ext.refl _ wc).drew),rfl⟩ ?_
    simp only [pick,List.getElem?_toArray,List.getElem?_cons_succ,List.getElem?_cons_zero]
    repeat (go_big_quiet_step (fail))
    refine wpQuiet_nil ?_
    have HE:=zz ((Ext.refl [] wc).drew)
    clear s0 s1 s2 s3
    have HA0:=zz (fun V (h:Ext [] (wc.alloc (.cells #[.string (S a3),.string ⟨#[48]⟩] 9)) V)=>two_cells (heap_alloc_at _) h)
    have HB0:=zz (fun V (h:Ext [] (wc.alloc (.cells #[.string (S c3),.string ⟨#[48]⟩] 9)) V)=>two_cells (heap_alloc_at _) h)
    have HB1:=zz (fun V (h:Ext [] ((wc.alloc (.cells #[.string (S a3),.string ⟨#[48]⟩] 9)).alloc (.cells #[.string (S c3),.string ⟨#[48]⟩] 9)) V)=>two_cells (alloc2 _ _ _) h)
    have HA1:=zz (fun V (h:Ext [] ((wc.alloc (.cells #[.string (S c3),.string ⟨#[48]⟩] 9)).alloc (.cells #[.string (S a3),.string ⟨#[48]⟩] 9)) V)=>two_cells (alloc2 _ _ _) h)
    have h6:=HS6.out.get 0 rfl
    have k2:∀ o1 o2,((wc.alloc o1).alloc o2).cell? ⟨g,2,none⟩=some (.string (S a3)):=fun o1 o2=>cellOf (((Ext.refl [] wc).alloc o1).alloc o2 |>.keep h6 (by simp)) 2
    have k3:∀ o1 o2,((wc.alloc o1).alloc o2).cell? ⟨g,3,none⟩=some (.string (S c3)):=fun o1 o2=>cellOf (((Ext.refl [] wc).alloc o1).alloc o2 |>.keep h6 (by simp)) 3
    have f2:∀ o1 o2,((wc.alloc o1).alloc o2).frozen? ⟨g,2,none⟩=false:=fun o1 o2=>freeOf (((Ext.refl [] wc).alloc o1).alloc o2 |>.keep h6 (by simp)) 2
    have f3:∀ o1 o2,((wc.alloc o1).alloc o2).frozen? ⟨g,3,none⟩=false:=fun o1 o2=>freeOf (((Ext.refl [] wc).alloc o1).alloc o2 |>.keep h6 (by simp)) 3
    have HFS:=zz (fun o1 o2=>(upd2 (ta:=oa) (tb:=oc) (HS6.out.quiet (((Ext.refl [] wc).alloc o1).alloc o2)) 0 rfl).quiet ((Ext.refl [] _).drew))
    clear h6
    refine anyC_two (f:=4) (i:=2) (j:=6) (by kernel_rfl) (by decide) (by decide) rfl rfl rfl rfl (fun K hK=>?_) (fun K hK=>?_)
    ·go_wp2_with fail
     have HE:=zz (HE.out.alloc (.cells #[.string (S a3),.string ⟨#[48]⟩] 9))
     refine hK _ _ ⟨Ex.mk _ HE.out,rfl⟩ ?_
     clear hK K
     refine anyC_two (f:=3) (i:=3) (j:=6) (by kernel_rfl) (by decide) (by decide) rfl rfl rfl rfl (fun K hK=>?_) (fun K hK=>?_)
     ·go_wp2_with fail
      refine (HOA.out _ _ (HA0.out _ (by first | exact (Ext.refl _ _).drew | exact ((Ext.refl _ _).alloc _).drew)).1 (HA0.out _ (by first | exact (Ext.refl _ _).drew | exact ((Ext.refl _ _).alloc _).drew)).2).mono ?_
      rintro e w9 ⟨rfl,rfl⟩
      go_wp2_with fail
      refine hK _ _ ⟨Ex.mk _ HE.out,rfl⟩ ?_
      clear hK K
      refine anyC_two (f:=2) (i:=6) (j:=8) (by kernel_rfl) (by decide) (by decide) rfl rfl rfl rfl (fun K hK=>?_) (fun K hK=>?_)
      ·go_wp2_with fail
       have HE:=zz (HE.out.alloc (.cells #[.string (S c3),.string ⟨#[48]⟩] 9))
       refine hK _ _ ⟨Ex.mk _ HE.out,rfl⟩ ?_
       clear hK K
       refine anyC_two (f:=1) (i:=7) (j:=8) (by kernel_rfl) (by decide) (by decide) rfl rfl rfl rfl (fun K hK=>?_) (fun K hK=>?_)
       ·go_wp2_with fail
        refine (HOB.out _ _ (HB1.out _ (by first | exact (Ext.refl _ _).drew | exact ((Ext.refl _ _).alloc _).drew)).1 (HB1.out _ (by first | exact (Ext.refl _ _).drew | exact ((Ext.refl _ _).alloc _).drew)).2).mono ?_
        rintro e w9 ⟨rfl,rfl⟩
        go_wp2_with fail
        refine hK _ _ ⟨Ex.mk _ HE.out,rfl⟩ ?_
        clear hK K
        refine anyC_one (f:=0) (i:=8) (by kernel_rfl) (by decide) rfl rfl (fun K hK=>?_)
        go_wp2_with fail
        refine hK _ _ ⟨Ex.mk _ HE.out,rfl⟩ ?_
        clear hK K
        refine⟨by kernel_rfl,?_⟩
        go_wp2_with fail
        refine NoPanic.normal ?_
        go_wp2_with fail
        go_meet
        exact HFS.out _ _
       ·go_wp2_with fail
        refine hK _ _ ⟨Ex.mk _ HE.out,rfl⟩ ?_
        clear hK K
        refine anyC_one (f:=0) (i:=7) (by kernel_rfl) (by decide) rfl rfl (fun K hK=>?_)
        go_wp2_with fail
        refine (HOB.out _ _ (HB1.out _ (by first | exact (Ext.refl _ _).drew | exact ((Ext.refl _ _).alloc _).drew)).1 (HB1.out _ (by first | exact (Ext.refl _ _).drew | exact ((Ext.refl _ _).alloc _).drew)).2).mono ?_
        rintro e w9 ⟨rfl,rfl⟩
        go_wp2_with fail
        refine hK _ _ ⟨Ex.mk _ HE.out,rfl⟩ ?_
        clear hK K
        refine⟨by kernel_rfl,?_⟩
        go_wp2_with fail
        refine NoPanic.normal ?_
        go_wp2_with fail
        go_meet
        exact HFS.out _ _
      ·go_wp2_with fail
       refine hK _ _ ⟨Ex.mk _ HE.out,rfl⟩ ?_
       clear hK K
       refine anyC_one (f:=1) (i:=6) (by kernel_rfl) (by decide) rfl rfl (fun K hK=>?_)
       go_wp2_with fail
       have HE:=zz (HE.out.alloc (.cells #[.string (S c3),.string ⟨#[48]⟩] 9))
       refine hK _ _ ⟨Ex.mk _ HE.out,rfl⟩ ?_
       clear hK K
       refine anyC_one (f:=0) (i:=7) (by kernel_rfl) (by decide) rfl rfl (fun K hK=>?_)
       go_wp2_with fail
       refine (HOB.out _ _ (HB1.out _ (by first | exact (Ext.refl _ _).drew | exact ((Ext.refl _ _).alloc _).drew)).1 (HB1.out _ (by first | exact (Ext.refl _ _).drew | exact ((Ext.refl _ _).alloc _).drew)).2).mono ?_
       rintro e w9 ⟨rfl,rfl⟩
       go_wp2_with fail
       refine hK _ _ ⟨Ex.mk _ HE.out,rfl⟩ ?_
       clear hK K
       refine⟨by kernel_rfl,?_⟩
       go_wp2_with fail
       refine NoPanic.normal ?_
       go_wp2_with fail
       go_meet
       exact HFS.out _ _
     ·go_wp2_with fail
      have HE:=zz (HE.out.alloc (.cells #[.string (S c3),.string ⟨#[48]⟩] 9))
      refine hK _ _ ⟨Ex.mk _ HE.out,rfl⟩ ?_
      clear hK K
      refine anyC_one (f:=2) (i:=3) (by kernel_rfl) (by decide) rfl rfl (fun K hK=>?_)
      go_wp2_with fail
      refine (HOA.out _ _ (HA0.out _ (by first | exact (Ext.refl _ _).drew | exact ((Ext.refl _ _).alloc _).drew)).1 (HA0.out _ (by first | exact (Ext.refl _ _).drew | exact ((Ext.refl _ _).alloc _).drew)).2).mono ?_
      rintro e w9 ⟨rfl,rfl⟩
      go_wp2_with fail
      refine hK _ _ ⟨Ex.mk _ HE.out,rfl⟩ ?_
      clear hK K
      refine anyC_two (f:=1) (i:=7) (j:=8) (by kernel_rfl) (by decide) (by decide) rfl rfl rfl rfl (fun K hK=>?_) (fun K hK=>?_)
      ·go_wp2_with fail
       refine (HOB.out _ _ (HB1.out _ (by first | exact (Ext.refl _ _).drew | exact ((Ext.refl _ _).alloc _).drew)).1 (HB1.out _ (by first | exact (Ext.refl _ _).drew | exact ((Ext.refl _ _).alloc _).drew)).2).mono ?_
       rintro e w9 ⟨rfl,rfl⟩
       go_wp2_with fail
       refine hK _ _ ⟨Ex.mk _ HE.out,rfl⟩ ?_
       clear hK K
       refine anyC_one (f:=0) (i:=8) (by kernel_rfl) (by decide) rfl rfl (fun K hK=>?_)
       go_wp2_with fail
       refine hK _ _ ⟨Ex.mk _ HE.out,rfl⟩ ?_
       clear hK K
       refine⟨by kernel_rfl,?_⟩
       go_wp2_with fail
       refine NoPanic.normal ?_
       go_wp2_with fail
       go_meet
       exact HFS.out _ _
      ·go_wp2_with fail
       refine hK _ _ ⟨Ex.mk _ HE.out,rfl⟩ ?_
       clear hK K
       refine anyC_one (f:=0) (i:=7) (by kernel_rfl) (by decide) rfl rfl (fun K hK=>?_)
       go_wp2_with fail
       refine (HOB.out _ _ (HB1.out _ (by first | exact (Ext.refl _ _).drew | exact ((Ext.refl _ _).alloc _).drew)).1 (HB1.out _ (by first | exact (Ext.refl _ _).drew | exact ((Ext.refl _ _).alloc _).drew)).2).mono ?_
       rintro e w9 ⟨rfl,rfl⟩
       go_wp2_with fail
       refine hK _ _ ⟨Ex.mk _ HE.out,rfl⟩ ?_
       clear hK K
       refine⟨by kernel_rfl,?_⟩
       go_wp2_with fail
       refine NoPanic.normal ?_
       go_wp2_with fail
       go_meet
       exact HFS.out _ _
    ·go_wp2_with fail
     have HE:=zz (HE.out.alloc (.cells #[.string (S c3),.string ⟨#[48]⟩] 9))
     refine hK _ _ ⟨Ex.mk _ HE.out,rfl⟩ ?_
     clear hK K
     refine anyC_one (f:=3) (i:=2) (by kernel_rfl) (by decide) rfl rfl (fun K hK=>?_)
     go_wp2_with fail
     have HE:=zz (HE.out.alloc (.cells #[.string (S a3),.string ⟨#[48]⟩] 9))
     refine hK _ _ ⟨Ex.mk _ HE.out,rfl⟩ ?_
     clear hK K
     refine anyC_one (f:=2) (i:=3) (by kernel_rfl) (by decide) rfl rfl (fun K hK=>?_)
     go_wp2_with fail
     refine (HOA.out _ _ (HA1.out _ (by first | exact (Ext.refl _ _).drew | exact ((Ext.refl _ _).alloc _).drew)).1 (HA1.out _ (by first | exact (Ext.refl _ _).drew | exact ((Ext.refl _ _).alloc _).drew)).2).mono ?_
     rintro e w9 ⟨rfl,rfl⟩
     go_wp2_with fail
     refine hK _ _ ⟨Ex.mk _ HE.out,rfl⟩ ?_
     clear hK K
     refine anyC_two (f:=1) (i:=7) (j:=8) (by kernel_rfl) (by decide) (by decide) rfl rfl rfl rfl (fun K hK=>?_) (fun K hK=>?_)
     ·go_wp2_with fail
      refine (HOB.out _ _ (HB0.out _ (by first | exact (Ext.refl _ _).drew | exact ((Ext.refl _ _).alloc _).drew)).1 (HB0.out _ (by first | exact (Ext.refl _ _).drew | exact ((Ext.refl _ _).alloc _).drew)).2).mono ?_
      rintro e w9 ⟨rfl,rfl⟩
      go_wp2_with fail
      refine hK _ _ ⟨Ex.mk _ HE.out,rfl⟩ ?_
      clear hK K
      refine anyC_one (f:=0) (i:=8) (by kernel_rfl) (by decide) rfl rfl (fun K hK=>?_)
      go_wp2_with fail
      refine hK _ _ ⟨Ex.mk _ HE.out,rfl⟩ ?_
      clear hK K
      refine⟨by kernel_rfl,?_⟩
      go_wp2_with fail
      refine NoPanic.normal ?_
      go_wp2_with fail
      go_meet
      exact HFS.out _ _
     ·go_wp2_with fail
      refine hK _ _ ⟨Ex.mk _ HE.out,rfl⟩ ?_
      clear hK K
      refine anyC_one (f:=0) (i:=7) (by kernel_rfl) (by decide) rfl rfl (fun K hK=>?_)
      go_wp2_with fail
      refine (HOB.out _ _ (HB0.out _ (by first | exact (Ext.refl _ _).drew | exact ((Ext.refl _ _).alloc _).drew)).1 (HB0.out _ (by first | exact (Ext.refl _ _).drew | exact ((Ext.refl _ _).alloc _).drew)).2).mono ?_
      rintro e w9 ⟨rfl,rfl⟩
      go_wp2_with fail
      refine hK _ _ ⟨Ex.mk _ HE.out,rfl⟩ ?_
      clear hK K
      refine⟨by kernel_rfl,?_⟩
      go_wp2_with fail
      refine NoPanic.normal ?_
      go_wp2_with fail
      go_meet
      exact HFS.out _ _
   case rest=>
    have HS7:=zz hcut
    clear hcut HS6
    have h7:=HS7.out.get 0 rfl
    have s0:wc.cell? ⟨g,0,none⟩=some (.int .i64 2):=cellOf h7 0
    have s1:wc.cell? ⟨g,1,none⟩=some (.bool n3):=cellOf h7 1
    have s2:wc.cell? ⟨g,2,none⟩=some (.string (S oa)):=cellOf h7 2
    have s3:wc.cell? ⟨g,3,none⟩=some (.string (S oc)):=cellOf h7 3
    have HL3:=zz (show ∀ w,Calls Tryz.prog 164 #[.agg #[.int .i64 2,.bool n3,.string (S oa),.string (S oc)]] w fun e w'=>e=.returned (.bool ly)∧Ext [] w w' from HL2.out 2)
    clear HL2
    go_wp2_with fail
    refine (HL3.out _).mono ?_
    rintro e w8 ⟨rfl,hx⟩
    have HS8:=zz (HS7.out.quiet hx)
    clear hx s0 s1 s2 s3 h7
    have h8:=HS8.out.get 0 rfl
    cases ly with
    | true=>
     obtain⟨rfl,rfl⟩:r1=[]∧r2=3:=Prod.mk.inj (HR.out.trans (if_pos rfl))
     go_wp2_with fail
     exact bodyPost_ret (results_tmp2 rfl _ _ _) rfl ⟨rfl,HFIN.out _ HS8.out.ext⟩
    | false=>
     obtain⟨hr1,rfl⟩:r1=_∧r2=0:=Prod.mk.inj (HR.out.trans (if_neg (by simp)))
     have hcat:S sg++S oa++⟨#[46]⟩++S oc=S r1:=by
      rw [hr1,show (⟨#[46]⟩:ByteArray)=S [46] from rfl,S_app,S_app,S_app]
     have HCAT:=zz hcat
     have z1:(S sg++S oa).size≤1048578:=by rw [ByteArray.size_append]; omega
     have z2:(S sg++S oa++⟨#[46]⟩).size≤1048579:=by rw [ByteArray.size_append]; have:(⟨#[46]⟩:ByteArray).size=1:=rfl; omega
     have s2:w8.cell? ⟨g,2,none⟩=some (.string (S oa)):=cellOf h8 2
     have s3:w8.cell? ⟨g,3,none⟩=some (.string (S oc)):=cellOf h8 3
     clear hr1 hcat
     go_wp2_with fail
     rw [HCAT.out]
     exact bodyPost_ret (results_tmp2 rfl _ _ _) rfl ⟨rfl,HFIN.out _ HS8.out.ext⟩
 ·obtain⟨rfl,rfl⟩:r1=[]∧r2=7:=Prod.mk.inj (HR.out.trans (if_pos hk))
  have hkb:((k3:Int)==2)=false:=beq_eq_false_iff_ne.2 (by omega)
  go_wp2_with fail
  exact bodyPost_ret (results_tmp2 rfl _ _ _) rfl ⟨rfl,HFIN.out _ HS.out.ext⟩
end Nu
end Go.Proofs.YtljachhmdogkdaaGreatDoor
