/-
 Texts TtS, TtT, TtU, TtUd, TtUc, TtUb, as far as the statement needs them.
-/
import Derived.Test.YtljachhmdogkdaaGreatDoorQNu
import Derived.Test.YtljachhmdogkdaaGreatDoorQPkU
set_option maxRecDepth 100000
set_option maxHeartbeats 64000000
namespace Go.Proofs.YtljachhmdogkdaaGreatDoor
namespace Nu
open Go.RowKit
theorem digit01_walk (c:UInt8) (w:World):Calls Tryz.prog 161 #[.int .u8 c.toNat] w fun e w'=>e=.returned (.bool (digB c))∧w=w':=by
 have hc:=c.toNat_lt
 unfold digB
 obtain⟨x,hx⟩:∃ x,c.toNat=x:=⟨_,rfl⟩
 rw [hx] at hc ⊢
 clear hx
 by_cases h1:48≤x
 ·have h1z:(48:Int)≤(x:Int):=by omega
  by_cases h2:x≤57
  ·have h2z:(x:Int)≤57:=by omega
   rw [decide_eq_true ⟨h1,h2⟩]
   go_enter Tryz.func161,Tryz.ntmps161
   go_wp2_with fail
   go_ret
   exact⟨rfl,rfl⟩
  ·have h2z:¬ (x:Int)≤57:=by omega
   rw [decide_eq_false (fun h=>h2 h.2)]
   go_enter Tryz.func161,Tryz.ntmps161
   go_wp2_with fail
   go_ret
   exact⟨rfl,rfl⟩
 ·have h1z:¬ (48:Int)≤(x:Int):=by omega
  rw [decide_eq_false (fun h=>h1 h.1)]
  go_enter Tryz.func161,Tryz.ntmps161
  go_wp2_with fail
  go_ret
  exact⟨rfl,rfl⟩
theorem results_tmp5 {P:Program} {fn:Func} {p q r s t:Tmp} (h:fn.results=#[.tmp p,.tmp q,.tmp r,.tmp s,.tmp t]) (tmps:Array Value) (w:World) :
  (results fn tmps).run P w=.ok (.tuple #[tmps.getD p undef,tmps.getD q undef,tmps.getD r undef,tmps.getD s undef,tmps.getD t undef]) w:=by
 simp [results,h]
def spN (l:List UInt8):Nat:=(l.takeWhile digB).length
theorem dig_46 {x:UInt8} (h:digB x=true):x≠46:=by rintro rfl; revert h; decide
theorem sp_cons (x:UInt8) (l:List UInt8):spN (x::l)=if digB x then spN l+1 else 0:=by
 unfold spN
 rw [List.takeWhile_cons]
 split <;> simp
theorem sp_le (l:List UInt8):spN l≤l.length:=(List.takeWhile_sublist _).length_le
theorem sp_in:∀ (l:List UInt8) (k:Nat),k<spN l→∀ h:k<l.length,digB (l[k]'h)=true
 | [],k,hk,h=>by simp at h
 | x::l,k,hk,h=>by
  rw [sp_cons] at hk
  split at hk
  ·rename_i hx
   match k,h with
   | 0,_=>exact hx
   | k+1,h=>exact sp_in l k (by omega) (by simpa using h)
  ·omega
theorem sp_out:∀ (l:List UInt8) (h:spN l<l.length),digB (l[spN l]'h)=false
 | [],h=>by simp at h
 | x::l,h=>by
  by_cases hx:digB x=true
  ·have e:spN (x::l)=spN l+1:=by rw [sp_cons,if_pos hx]
   have h2:spN l<l.length:=by simp at h; omega
   have:=sp_out l h2
   simp only [e,List.getElem_cons_succ]
   exact this
  ·have e:spN (x::l)=0:=by rw [sp_cons,if_neg hx]
   simp only [e,List.getElem_cons_zero]
   simpa using hx
theorem sp_all:∀ (l:List UInt8),spN l=l.length→befL l=l∧aftL l=[]∧hasL l=false∧l.all digB=true
 | [],_=>by simp [befL,aftL,hasL]
 | x::l,h=>by
  by_cases hx:digB x=true
  ·rw [sp_cons,if_pos hx] at h
   obtain⟨h1,h2,h3,h4⟩:=sp_all l (by simpa using h)
   have hb:(x != 46)=true:=bne_iff_ne.2 (dig_46 hx)
   refine⟨?_,?_,?_,by rw [List.all_cons,hx,h4]; rfl⟩
   ·unfold befL at h1 ⊢
    rw [List.takeWhile_cons,if_pos hb,h1]
   ·unfold aftL at h2 ⊢
    rw [List.dropWhile_cons,if_pos hb,h2]
   ·unfold hasL at h3 ⊢
    rw [List.contains_cons,h3]
    simp [(dig_46 hx).symm]
  ·rw [sp_cons,if_neg hx] at h
   simp at h
theorem sp_point:∀ (l:List UInt8) (h:spN l<l.length),(l[spN l]'h)=46→befL l=l.take (spN l)∧aftL l=l.drop (spN l+1)∧hasL l=true∧(l.take (spN l)).all digB=true
 | [],h,_=>by simp at h
 | x::l,h,h46=>by
  by_cases hx:digB x=true
  ·have e:spN (x::l)=spN l+1:=by rw [sp_cons,if_pos hx]
   have h2' : spN l<l.length:=by simp at h; omega
   simp only [e,List.getElem_cons_succ] at h46
   obtain⟨h1,h2,h3,h4⟩:=sp_point l h2' h46
   have hb:(x != 46)=true:=bne_iff_ne.2 (dig_46 hx)
   rw [e]
   refine⟨?_,?_,?_,by rw [List.take_succ_cons,List.all_cons,hx,h4]; rfl⟩
   ·unfold befL at h1 ⊢
    rw [List.takeWhile_cons,if_pos hb,h1,List.take_succ_cons]
   ·unfold aftL at h2 ⊢
    rw [List.dropWhile_cons,if_pos hb,h2,List.drop_succ_cons]
   ·unfold hasL at h3 ⊢
    rw [List.contains_cons,h3]
    simp
  ·have e:spN (x::l)=0:=by rw [sp_cons,if_neg hx]
   simp only [e,List.getElem_cons_zero] at h46
   subst h46
   rw [e]
   simp [befL,aftL,hasL]
theorem sp_bad:∀ (l:List UInt8) (h:spN l<l.length),(l[spN l]'h)≠46→(befL l).all digB=false
 | [],h,_=>by simp at h
 | x::l,h,h46=>by
  by_cases hx:digB x=true
  ·have e:spN (x::l)=spN l+1:=by rw [sp_cons,if_pos hx]
   have h2' : spN l<l.length:=by simp at h; omega
   simp only [e,List.getElem_cons_succ] at h46
   have h1:=sp_bad l h2' h46
   have hb:(x != 46)=true:=bne_iff_ne.2 (dig_46 hx)
   unfold befL at h1 ⊢
   rw [List.takeWhile_cons,if_pos hb,List.all_cons,h1,Bool.and_false]
  ·have e:spN (x::l)=0:=by rw [sp_cons,if_neg hx]
   simp only [e,List.getElem_cons_zero] at h46
   unfold befL
   rw [List.takeWhile_cons,if_pos (bne_iff_ne.2 h46),List.all_cons]
   simp [hx]
structure SpOk (t:ByteArray) (c:Nat):Prop where
 inn:∀ k,k<c→∀ h:k<t.size,digB (t[k]'h)=true
 all:c=t.size→befL (B t)=B t∧aftL (B t)=[]∧hasL (B t)=false∧goodL (B t)=decide (0<t.size)
 out:∀ h:c<t.size,digB (t[c]'h)=false
 bad:∀ h:c<t.size,(t[c]'h).toNat≠46→goodL (B t)=false
 pt:∀ h:c<t.size,(t[c]'h).toNat=46→befL (B t)=(B t).take c∧aftL (B t)=(B t).drop (c+1)∧hasL (B t)=true∧goodL (B t)=(((B t).drop (c+1)).all digB&&decide (0<c+((B t).drop (c+1)).length))
theorem sp_ok (t:ByteArray):SpOk t (spN (B t))∧spN (B t)≤t.size:=by
 have hat:∀ k (h:k<t.size),(B t)[k]'(by rw [B_len]; exact h)=t[k]'h:=fun k h=>rfl
 refine⟨⟨fun k hk h=>?_,fun h=>?_,fun h=>?_,fun h h46=>?_,fun h h46=>?_⟩,sp_le _⟩
 ·have:=sp_in (B t) k hk (by rw [B_len]; exact h)
  rwa [hat] at this
 ·obtain⟨h1,h2,h3,h4⟩:=sp_all (B t) (by rw [B_len]; exact h)
  refine⟨h1,h2,h3,?_⟩
  rw [goodL,h1,h2,h4,List.append_nil]
  by_cases h0:t.size=0
  ·have:B t=[]:=List.eq_nil_of_length_eq_zero h0
   rw [this,h0]
   rfl
  ·have:(B t).isEmpty=false:=by
    cases hb:B t with
    | nil=>exact absurd (show (B t).length=0 by rw [hb]; rfl) h0
    | cons a l=>rfl
   rw [this,decide_eq_true (by omega)]
   rfl
 ·have:=sp_out (B t) (by rw [B_len]; exact h)
  rwa [hat] at this
 ·have:=sp_bad (B t) (by rw [B_len]; exact h) (fun e=>h46 (by have e2:t[spN (B t)]'h=46:=e; rw [e2]; rfl))
  rw [goodL,this]
  rfl
 ·have e46:t[spN (B t)]'h=46:=UInt8.toNat_inj.1 h46
  obtain⟨h1,h2,h3,h4⟩:=sp_point (B t) (by rw [B_len]; exact h) (by rw [hat]; exact e46)
  refine⟨h1,h2,h3,?_⟩
  rw [goodL,h1,h2,h4,Bool.true_and]
  congr 1
  have hl:(List.take (spN (B t)) (B t)++List.drop (spN (B t)+1) (B t)).length=spN (B t)+(List.drop (spN (B t)+1) (B t)).length:=by
   rw [List.length_append,List.length_take,B_len]; omega
  generalize List.take (spN (B t)) (B t)++List.drop (spN (B t)+1) (B t)=z at hl
  rw [←hl]
  cases z <;> simp
def NotNum (e:Ending):Prop:=∃ n a b p,e=.returned (.tuple #[.bool n,.string a,.string b,.bool p,.bool false])
theorem split_walk (s:ByteArray) (w:World) (hs:s.size≤1000000):Calls Tryz.prog 147 #[.string s] w fun e w'=>
  (goodL (sgnR (B s))=true→e=.returned (.tuple #[.bool (sgnB (B s)),.string (S (befL (sgnR (B s)))),.string (S (aftL (sgnR (B s)))),.bool (hasL (sgnR (B s))),.bool true]))∧
  (goodL (sgnR (B s))=false→NotNum e)∧Ext [] w w':=by
 rcases head_parts s with ⟨h0,hB,he⟩ | ⟨he,h0,x,l,hx,hx9,hB,ht⟩
 ·have hsr:sgnR (B s)=B s:=by rw [hB]; rfl
  have hsg:sgnB (B s)=false:=by rw [hB]; rfl
  rw [hsr,hsg]
  have hgf:goodL (B s)=false:=by rw [hB]; rfl
  rw [hgf]
  have q1:¬ (0:Int)<(s.size:Int):=by omega
  have hex:s.extract 0 0=s:=by rw [show (s.extract 0 0)=s.extract 0 s.size by rw [h0],S_ext,←B_len,List.take_length,List.drop_zero]; rfl
  clear hsr hsg hB he hgf
  go_enter Tryz.func147,Tryz.ntmps147
  go_wp2_with fail
  go_loopg [7] 0 (fun _ iv wx=>iv=.int .i64 0∧w=wx)
  case atStart=>exact⟨rfl,rfl⟩
  case round=>
  obtain⟨rfl,rfl⟩:=hrel
  go_wp2_with fail
  have hz0:((ByteArray.mk #[]).size:Int)=0:=rfl
  go_loopg [2,3,4,5,6,8] 0 (fun _ a2 a3 a4 a5 a6 iv wx=>a2=.bool false∧a3=.string ⟨#[]⟩∧a4=.string ⟨#[]⟩∧a5=.bool false∧a6=.bool false∧iv=.int .i64 0∧w=wx)
  case atStart=>exact⟨rfl,rfl,rfl,rfl,rfl,rfl,rfl⟩
  case round=>
  obtain⟨rfl,rfl,rfl,rfl,rfl,rfl,rfl⟩:=hrel
  go_wp2_with fail
  (try simp only [Exit.inBlock,Exit.then])
  refine bodyPost_ret (results_tmp5 rfl _ _) rfl ⟨fun h=>(by cases h),fun _=>⟨_,_,_,_,rfl⟩,Ext.refl _ _⟩
 ·by_cases h43:x=43
  ·subst h43
   have hsr:sgnR (B s)=B (S l):=by rw [hB]; rfl
   have hsg:sgnB (B s)=false:=by rw [hB]; rfl
   rw [hsr,hsg]
   have htl:(S l).size+1=s.size:=by have:=congrArg List.length hB; rw [B_len] at this; rw [S_size]; simpa using this.symm
   generalize S l=t at ht htl
   obtain⟨HC,hcs⟩:=sp_ok t
   obtain⟨c,hc⟩:∃ c,spN (B t)=c:=⟨_,rfl⟩
   rw [hc] at HC hcs
   have HC:=zz HC
   have h0z:(0:Int)<(s.size:Int):=by omega
   have h1z:(1:Int)≤(s.size:Int):=by omega
   have q1:True:=trivial
   have q2:True:=trivial
   clear hc hsr hsg hB he
   go_enter Tryz.func147,Tryz.ntmps147
   go_upto_region 2 with (fail)
   go_quiet (fail)
   go_upto_region 3 with (fail)
   clear hx
   clear q1 q2
   go_wp2_with fail
   go_loopg [7] c (fun g iv wr=>∃ k:Nat,g+k=c∧iv=.int .i64 k∧Ext [] w wr)
   case atStart=>exact⟨0,by omega,rfl,(Ext.refl _ _).drewN _⟩
   case round=>
    obtain⟨k,hgk,rfl,hxw⟩:=hrel
    have HXW:=zz hxw
    clear hxw
    by_cases hkc:k<c
    ·obtain⟨g,rfl⟩:∃ g,gk=g+1:=⟨gk - 1,by omega⟩
     have hks:k<t.size:=by omega
     have hltz:(k:Int)<(t.size:Int):=by omega
     have HW:=zz (fun w=>digit01_walk (t[k]'hks) w)
     rw [HC.out.inn k hkc hks] at HW
     go_wp2_with fail
     refine (HW.out _).mono ?_
     rintro e w1 ⟨rfl,rfl⟩
     go_wp2_with fail
     go_roundg g
     case measure=>omega
     case rel=>exact⟨k+1,by omega,by go_num,HXW.out⟩
    ·obtain rfl:gk=0:=by omega
     obtain rfl:k=c:=by omega
     have hcz:(0:Int)≤(k:Int):=by omega
     have hcz2:(k:Int)≤(t.size:Int):=by omega
     by_cases hcs:k<t.size
     case neg=>
      have hltz:¬ (k:Int)<(t.size:Int):=by omega
      obtain⟨f1,f2,f3,f4⟩:=HC.out.all (by omega)
      have hex:t.extract 0 k=t:=by rw [show k=t.size by omega,S_ext,←B_len,List.take_length,List.drop_zero]; rfl
      have HF:=zz4 ⟨f1,f2,f3,f4⟩
      clear f1 f2 f3 f4
      go_wp2_with fail
      (try rw [hex])
      have hz0:((ByteArray.mk #[]).size:Int)=0:=rfl
      go_loopg [2,3,4,5,6,8] 0 (fun _ a2 a3 a4 a5 a6 iv wx=>a2=.bool false∧a3=.string t∧a4=.string ⟨#[]⟩∧a5=.bool false∧a6=.bool false∧iv=.int .i64 0∧wr=wx)
      case atStart=>exact⟨rfl,rfl,rfl,rfl,rfl,rfl,rfl⟩
      case round=>
       obtain⟨rfl,rfl,rfl,rfl,rfl,rfl,rfl⟩:=hrel
       by_cases h0:t.size=0
       ·have hlz:¬ (0:Int)<(t.size:Int):=by omega
        go_wp2_with fail
        (try simp only [Exit.inBlock,Exit.then])
        refine bodyPost_ret (results_tmp5 rfl _ _) rfl ⟨fun h=>?_,fun _=>?_,HXW.out⟩
        ·rw [HF.out.2.2.2,h0] at h
         cases h
        ·exact⟨_,_,_,_,by simp; exact⟨rfl,rfl,rfl,rfl⟩⟩
       ·have hlz:(0:Int)<(t.size:Int):=by omega
        go_wp2_with fail
        (try simp only [Exit.inBlock,Exit.then])
        refine bodyPost_ret (results_tmp5 rfl _ _) rfl ⟨fun h=>?_,fun h=>?_,HXW.out⟩
        ·rw [HF.out.1,HF.out.2.1,HF.out.2.2.1,S_B]
         simp [S]
         (try omega)
        ·rw [HF.out.2.2.2,decide_eq_true (by omega)] at h
         cases h
     case pos=>
     have hltz:(k:Int)<(t.size:Int):=by omega
     have HW:=zz (fun w=>digit01_walk (t[k]'hcs) w)
     rw [HC.out.out hcs] at HW
     by_cases h46:(t[k]'hcs).toNat=46
     case neg=>
      have hgf:=HC.out.bad hcs h46
      obtain⟨x,hx⟩:∃ x,(t[k]'hcs).toNat=x:=⟨_,rfl⟩
      have hx9:x<256:=by rw [←hx]; exact UInt8.toNat_lt _
      rw [hx] at HW h46
      have hxb:((x:Int)==46)=false:=beq_eq_false_iff_ne.2 (by omega)
      have hxi:(t[k]'hcs).toNat=x:=hx
      go_wp2_with fail
      refine (HW.out _).mono ?_
      rintro e w1 ⟨rfl,rfl⟩
      go_wp2_with fail
      (try simp only [Exit.inBlock,Exit.then])
      refine bodyPost_ret (results_tmp5 rfl _ _) rfl ⟨fun h=>?_,fun h=>⟨_,_,_,_,rfl⟩,HXW.out⟩
      rw [hgf] at h
      cases h
     case pos=>
     obtain⟨p1,p2,p3,p4⟩:=HC.out.pt hcs h46
     simp only [h46] at HW
     have hxb:(((t[k]'hcs).toNat:Int)==46)=true:=by rw [h46]; rfl
     obtain⟨u,hu⟩:∃ u,S ((B t).drop (k+1))=u:=⟨_,rfl⟩
     have hBu:(B t).drop (k+1)=B u:=by rw [←hu,B_S]
     have hex1:t.extract 0 k=S ((B t).take k):=by rw [S_ext,List.drop_zero]
     have hex2:t.extract (k+1) t.size=u:=by rw [S_tail,hu]
     have hul:u.size+(k+1)=t.size:=by rw [←hu,S_size,List.length_drop,B_len]; omega
     have hwl:(S ((B t).take k)).size=k:=by rw [S_size,List.length_take,B_len]; omega
     obtain⟨wh,hwh⟩:∃ wh,S ((B t).take k)=wh:=⟨_,rfl⟩
     rw [hBu] at p2 p4
     rw [hwh] at hex1 hwl
     have HP:=zz5 ⟨p1,p2,p3,p4,hwh⟩
     have hkz1:(k:Int)+1≤(t.size:Int):=by omega
     clear p1 p2 p3 p4 hu hBu hwh
     go_wp2_with fail
     refine (HW.out _).mono ?_
     rintro e w1 ⟨rfl,rfl⟩
     go_wp2_with fail
     (try rw [hex1])
     (try rw [hex2])
     clear hxb hex1 hex2 hkz1
     go_loopg [2,3,4,5,6,8] u.size (fun g a2 a3 a4 a5 a6 iv wx=>∃ j:Nat,a2=.bool false∧a3=.string wh∧a4=.string u∧a5=.bool true∧a6=.bool false∧g+j=u.size∧iv=.int .i64 j∧((B u).drop j).all digB=(B u).all digB∧wr=wx)
     case atStart=>exact⟨0,rfl,rfl,rfl,rfl,rfl,by omega,rfl,rfl,rfl⟩
     case round=>
      obtain⟨j,rfl,rfl,rfl,rfl,rfl,hgj,rfl,hd,rfl⟩:=hrel
      by_cases hju:j<u.size
      ·obtain⟨g,rfl⟩:∃ g,gk=g+1:=⟨gk - 1,by omega⟩
       have hjz:(j:Int)<(u.size:Int):=by omega
       rw [B_at u j hju,List.all_cons] at hd
       have HW2:=zz (fun w=>digit01_walk (u[j]'hju) w)
       cases hcd:digB (u[j]'hju) with
       | true=>
        rw [hcd,Bool.true_and] at hd
        rw [hcd] at HW2
        have HD:=zz hd
        clear hd hcd
        go_wp2_with fail
        refine (HW2.out _).mono ?_
        rintro e w1 ⟨rfl,rfl⟩
        go_wp2_with fail
        go_roundg g
        case measure=>omega
        case rel=>exact⟨j+1,rfl,rfl,rfl,rfl,rfl,by omega,by go_num,HD.out,rfl⟩
       | false=>
        rw [hcd,Bool.false_and] at hd
        rw [hcd] at HW2
        have HD:=zz hd
        clear hd hcd
        go_wp2_with fail
        refine (HW2.out _).mono ?_
        rintro e w1 ⟨rfl,rfl⟩
        go_wp2_with fail
        (try simp only [Exit.inBlock,Exit.then])
        refine bodyPost_ret (results_tmp5 rfl _ _) rfl ⟨fun h=>?_,fun h=>⟨_,_,_,_,rfl⟩,HXW.out⟩
        rw [HP.out.2.2.2.1,←HD.out] at h
        cases h
      ·obtain rfl:gk=0:=by omega
       have hjz:¬ (j:Int)<(u.size:Int):=by omega
       rw [List.drop_of_length_le (by rw [B_len]; omega)] at hd
       have hd:true=(B u).all digB:=hd
       have HD:=zz hd
       clear hd
       by_cases h0:0<wh.size+u.size
       ·have hlz:(0:Int)<(wh.size:Int)+(u.size:Int):=by omega
        have hwl':=hwl
        clear hwl
        have HWl:=zz hwl'
        have b1:wh.size≤1000000:=by omega
        have b2:u.size≤1000000:=by omega
        clear hwl'
        go_wp2_with fail
        (try simp only [Exit.inBlock,Exit.then])
        refine bodyPost_ret (results_tmp5 rfl _ _) rfl ⟨fun h=>?_,fun h=>?_,HXW.out⟩
        ·rw [HP.out.1,HP.out.2.1,HP.out.2.2.1,HP.out.2.2.2.2,S_B]
         simp
        ·rw [HP.out.2.2.2.1,←HD.out,B_len,decide_eq_true (by have:=HWl.out; omega)] at h
         cases h
       ·have hlz:¬ (0:Int)<(wh.size:Int)+(u.size:Int):=by omega
        have hwl':=hwl
        clear hwl
        have HWl:=zz hwl'
        have b1:wh.size≤1000000:=by omega
        have b2:u.size≤1000000:=by omega
        clear hwl'
        go_wp2_with fail
        (try simp only [Exit.inBlock,Exit.then])
        refine bodyPost_ret (results_tmp5 rfl _ _) rfl ⟨fun h=>?_,fun h=>?_,HXW.out⟩
        ·rw [HP.out.2.2.2.1,←HD.out,B_len,decide_eq_false (by have:=HWl.out; omega)] at h
         cases h
        ·exact⟨_,_,_,_,by simp; exact⟨rfl,rfl,rfl,rfl⟩⟩
  ·by_cases h45:x=45
   ·subst h45
    have hsr:sgnR (B s)=B (S l):=by rw [hB]; rfl
    have hsg:sgnB (B s)=true:=by rw [hB]; rfl
    rw [hsr,hsg]
    have htl:(S l).size+1=s.size:=by have:=congrArg List.length hB; rw [B_len] at this; rw [S_size]; simpa using this.symm
    generalize S l=t at ht htl
    obtain⟨HC,hcs⟩:=sp_ok t
    obtain⟨c,hc⟩:∃ c,spN (B t)=c:=⟨_,rfl⟩
    rw [hc] at HC hcs
    have HC:=zz HC
    have h0z:(0:Int)<(s.size:Int):=by omega
    have h1z:(1:Int)≤(s.size:Int):=by omega
    have q1:True:=trivial
    have q2:True:=trivial
    clear hc hsr hsg hB he
    go_enter Tryz.func147,Tryz.ntmps147
    go_upto_region 2 with (fail)
    go_quiet (fail)
    go_upto_region 3 with (fail)
    clear hx
    clear q1 q2
    go_wp2_with fail
    go_loopg [7] c (fun g iv wr=>∃ k:Nat,g+k=c∧iv=.int .i64 k∧Ext [] w wr)
    case atStart=>exact⟨0,by omega,rfl,(Ext.refl _ _).drewN _⟩
    case round=>
     obtain⟨k,hgk,rfl,hxw⟩:=hrel
     have HXW:=zz hxw
     clear hxw
     by_cases hkc:k<c
     ·obtain⟨g,rfl⟩:∃ g,gk=g+1:=⟨gk - 1,by omega⟩
      have hks:k<t.size:=by omega
      have hltz:(k:Int)<(t.size:Int):=by omega
      have HW:=zz (fun w=>digit01_walk (t[k]'hks) w)
      rw [HC.out.inn k hkc hks] at HW
      go_wp2_with fail
      refine (HW.out _).mono ?_
      rintro e w1 ⟨rfl,rfl⟩
      go_wp2_with fail
      go_roundg g
      case measure=>omega
      case rel=>exact⟨k+1,by omega,by go_num,HXW.out⟩
     ·obtain rfl:gk=0:=by omega
      obtain rfl:k=c:=by omega
      have hcz:(0:Int)≤(k:Int):=by omega
      have hcz2:(k:Int)≤(t.size:Int):=by omega
      by_cases hcs:k<t.size
      case neg=>
       have hltz:¬ (k:Int)<(t.size:Int):=by omega
       obtain⟨f1,f2,f3,f4⟩:=HC.out.all (by omega)
       have hex:t.extract 0 k=t:=by rw [show k=t.size by omega,S_ext,←B_len,List.take_length,List.drop_zero]; rfl
       have HF:=zz4 ⟨f1,f2,f3,f4⟩
       clear f1 f2 f3 f4
       go_wp2_with fail
       (try rw [hex])
       have hz0:((ByteArray.mk #[]).size:Int)=0:=rfl
       go_loopg [2,3,4,5,6,8] 0 (fun _ a2 a3 a4 a5 a6 iv wx=>a2=.bool true∧a3=.string t∧a4=.string ⟨#[]⟩∧a5=.bool false∧a6=.bool false∧iv=.int .i64 0∧wr=wx)
       case atStart=>exact⟨rfl,rfl,rfl,rfl,rfl,rfl,rfl⟩
       case round=>
        obtain⟨rfl,rfl,rfl,rfl,rfl,rfl,rfl⟩:=hrel
        by_cases h0:t.size=0
        ·have hlz:¬ (0:Int)<(t.size:Int):=by omega
         go_wp2_with fail
         (try simp only [Exit.inBlock,Exit.then])
         refine bodyPost_ret (results_tmp5 rfl _ _) rfl ⟨fun h=>?_,fun _=>?_,HXW.out⟩
         ·rw [HF.out.2.2.2,h0] at h
          cases h
         ·exact⟨_,_,_,_,by simp; exact⟨rfl,rfl,rfl,rfl⟩⟩
        ·have hlz:(0:Int)<(t.size:Int):=by omega
         go_wp2_with fail
         (try simp only [Exit.inBlock,Exit.then])
         refine bodyPost_ret (results_tmp5 rfl _ _) rfl ⟨fun h=>?_,fun h=>?_,HXW.out⟩
         ·rw [HF.out.1,HF.out.2.1,HF.out.2.2.1,S_B]
          simp [S]
          (try omega)
         ·rw [HF.out.2.2.2,decide_eq_true (by omega)] at h
          cases h
      case pos=>
      have hltz:(k:Int)<(t.size:Int):=by omega
      have HW:=zz (fun w=>digit01_walk (t[k]'hcs) w)
      rw [HC.out.out hcs] at HW
      by_cases h46:(t[k]'hcs).toNat=46
      case neg=>
       have hgf:=HC.out.bad hcs h46
       obtain⟨x,hx⟩:∃ x,(t[k]'hcs).toNat=x:=⟨_,rfl⟩
       have hx9:x<256:=by rw [←hx]; exact UInt8.toNat_lt _
       rw [hx] at HW h46
       have hxb:((x:Int)==46)=false:=beq_eq_false_iff_ne.2 (by omega)
       have hxi:(t[k]'hcs).toNat=x:=hx
       go_wp2_with fail
       refine (HW.out _).mono ?_
       rintro e w1 ⟨rfl,rfl⟩
       go_wp2_with fail
       (try simp only [Exit.inBlock,Exit.then])
       refine bodyPost_ret (results_tmp5 rfl _ _) rfl ⟨fun h=>?_,fun h=>⟨_,_,_,_,rfl⟩,HXW.out⟩
       rw [hgf] at h
       cases h
      case pos=>
      obtain⟨p1,p2,p3,p4⟩:=HC.out.pt hcs h46
      simp only [h46] at HW
      have hxb:(((t[k]'hcs).toNat:Int)==46)=true:=by rw [h46]; rfl
      obtain⟨u,hu⟩:∃ u,S ((B t).drop (k+1))=u:=⟨_,rfl⟩
      have hBu:(B t).drop (k+1)=B u:=by rw [←hu,B_S]
      have hex1:t.extract 0 k=S ((B t).take k):=by rw [S_ext,List.drop_zero]
      have hex2:t.extract (k+1) t.size=u:=by rw [S_tail,hu]
      have hul:u.size+(k+1)=t.size:=by rw [←hu,S_size,List.length_drop,B_len]; omega
      have hwl:(S ((B t).take k)).size=k:=by rw [S_size,List.length_take,B_len]; omega
      obtain⟨wh,hwh⟩:∃ wh,S ((B t).take k)=wh:=⟨_,rfl⟩
      rw [hBu] at p2 p4
      rw [hwh] at hex1 hwl
      have HP:=zz5 ⟨p1,p2,p3,p4,hwh⟩
      have hkz1:(k:Int)+1≤(t.size:Int):=by omega
      clear p1 p2 p3 p4 hu hBu hwh
      go_wp2_with fail
      refine (HW.out _).mono ?_
      rintro e w1 ⟨rfl,rfl⟩
      go_wp2_with fail
      (try rw [hex1])
      (try rw [hex2])
      clear hxb hex1 hex2 hkz1
      go_loopg [2,3,4,5,6,8] u.size (fun g a2 a3 a4 a5 a6 iv wx=>∃ j:Nat,a2=.bool true∧a3=.string wh∧a4=.string u∧a5=.bool true∧a6=.bool false∧g+j=u.size∧iv=.int .i64 j∧((B u).drop j).all digB=(B u).all digB∧wr=wx)
      case atStart=>exact⟨0,rfl,rfl,rfl,rfl,rfl,by omega,rfl,rfl,rfl⟩
      case round=>
       obtain⟨j,rfl,rfl,rfl,rfl,rfl,hgj,rfl,hd,rfl⟩:=hrel
       by_cases hju:j<u.size
       ·obtain⟨g,rfl⟩:∃ g,gk=g+1:=⟨gk - 1,by omega⟩
        have hjz:(j:Int)<(u.size:Int):=by omega
        rw [B_at u j hju,List.all_cons] at hd
        have HW2:=zz (fun w=>digit01_walk (u[j]'hju) w)
        cases hcd:digB (u[j]'hju) with
        | true=>
         rw [hcd,Bool.true_and] at hd
         rw [hcd] at HW2
         have HD:=zz hd
         clear hd hcd
         go_wp2_with fail
         refine (HW2.out _).mono ?_
         rintro e w1 ⟨rfl,rfl⟩
         go_wp2_with fail
         go_roundg g
         case measure=>omega
         case rel=>exact⟨j+1,rfl,rfl,rfl,rfl,rfl,by omega,by go_num,HD.out,rfl⟩
        | false=>
         rw [hcd,Bool.false_and] at hd
         rw [hcd] at HW2
         have HD:=zz hd
         clear hd hcd
         go_wp2_with fail
         refine (HW2.out _).mono ?_
         rintro e w1 ⟨rfl,rfl⟩
         go_wp2_with fail
         (try simp only [Exit.inBlock,Exit.then])
         refine bodyPost_ret (results_tmp5 rfl _ _) rfl ⟨fun h=>?_,fun h=>⟨_,_,_,_,rfl⟩,HXW.out⟩
         rw [HP.out.2.2.2.1,←HD.out] at h
         cases h
       ·obtain rfl:gk=0:=by omega
        have hjz:¬ (j:Int)<(u.size:Int):=by omega
        rw [List.drop_of_length_le (by rw [B_len]; omega)] at hd
        have hd:true=(B u).all digB:=hd
        have HD:=zz hd
        clear hd
        by_cases h0:0<wh.size+u.size
        ·have hlz:(0:Int)<(wh.size:Int)+(u.size:Int):=by omega
         have hwl':=hwl
         clear hwl
         have HWl:=zz hwl'
         have b1:wh.size≤1000000:=by omega
         have b2:u.size≤1000000:=by omega
         clear hwl'
         go_wp2_with fail
         (try simp only [Exit.inBlock,Exit.then])
         refine bodyPost_ret (results_tmp5 rfl _ _) rfl ⟨fun h=>?_,fun h=>?_,HXW.out⟩
         ·rw [HP.out.1,HP.out.2.1,HP.out.2.2.1,HP.out.2.2.2.2,S_B]
          simp
         ·rw [HP.out.2.2.2.1,←HD.out,B_len,decide_eq_true (by have:=HWl.out; omega)] at h
          cases h
        ·have hlz:¬ (0:Int)<(wh.size:Int)+(u.size:Int):=by omega
         have hwl':=hwl
         clear hwl
         have HWl:=zz hwl'
         have b1:wh.size≤1000000:=by omega
         have b2:u.size≤1000000:=by omega
         clear hwl'
         go_wp2_with fail
         (try simp only [Exit.inBlock,Exit.then])
         refine bodyPost_ret (results_tmp5 rfl _ _) rfl ⟨fun h=>?_,fun h=>?_,HXW.out⟩
         ·rw [HP.out.2.2.2.1,←HD.out,B_len,decide_eq_false (by have:=HWl.out; omega)] at h
          cases h
         ·exact⟨_,_,_,_,by simp; exact⟨rfl,rfl,rfl,rfl⟩⟩
   ·have hn:UInt8.ofNat x≠43∧UInt8.ofNat x≠45:=by
     constructor
     ·intro e; have:=congrArg UInt8.toNat e; simp at this; omega
     ·intro e; have:=congrArg UInt8.toNat e; simp at this; omega
    have hsr:sgnR (B s)=B s:=by rw [hB]; simp [sgnR,hn.1,hn.2]
    have hsg:sgnB (B s)=false:=by rw [hB]; simp [sgnB,hn.2]
    rw [hsr,hsg]
    obtain⟨t,hst⟩:∃ t,s=t:=⟨_,rfl⟩
    subst hst
    obtain⟨HC,hcs⟩:=sp_ok s
    obtain⟨c,hc⟩:∃ c,spN (B s)=c:=⟨_,rfl⟩
    rw [hc] at HC hcs
    have HC:=zz HC
    clear hc
    have q1:((x:Int)==43)=false:=beq_eq_false_iff_ne.2 (by omega)
    have q2:((x:Int)==45)=false:=beq_eq_false_iff_ne.2 (by omega)
    have h0z:(0:Int)<(s.size:Int):=by omega
    clear hsr hsg hB he hn h43 h45 ht
    go_enter Tryz.func147,Tryz.ntmps147
    go_upto_region 3 with (fail)
    clear hx
    clear q1 q2
    go_wp2_with fail
    go_loopg [7] c (fun g iv wr=>∃ k:Nat,g+k=c∧iv=.int .i64 k∧Ext [] w wr)
    case atStart=>exact⟨0,by omega,rfl,Ext.refl _ _⟩
    case round=>
     obtain⟨k,hgk,rfl,hxw⟩:=hrel
     have HXW:=zz hxw
     clear hxw
     by_cases hkc:k<c
     ·obtain⟨g,rfl⟩:∃ g,gk=g+1:=⟨gk - 1,by omega⟩
      have hks:k<s.size:=by omega
      have hltz:(k:Int)<(s.size:Int):=by omega
      have HW:=zz (fun w=>digit01_walk (s[k]'hks) w)
      rw [HC.out.inn k hkc hks] at HW
      go_wp2_with fail
      refine (HW.out _).mono ?_
      rintro e w1 ⟨rfl,rfl⟩
      go_wp2_with fail
      go_roundg g
      case measure=>omega
      case rel=>exact⟨k+1,by omega,by go_num,HXW.out⟩
     ·obtain rfl:gk=0:=by omega
      obtain rfl:k=c:=by omega
      have hcz:(0:Int)≤(k:Int):=by omega
      have hcz2:(k:Int)≤(s.size:Int):=by omega
      by_cases hcs:k<s.size
      case neg=>
       have hltz:¬ (k:Int)<(s.size:Int):=by omega
       obtain⟨f1,f2,f3,f4⟩:=HC.out.all (by omega)
       have hex:s.extract 0 k=s:=by rw [show k=s.size by omega,S_ext,←B_len,List.take_length,List.drop_zero]; rfl
       have HF:=zz4 ⟨f1,f2,f3,f4⟩
       clear f1 f2 f3 f4
       go_wp2_with fail
       (try rw [hex])
       have hz0:((ByteArray.mk #[]).size:Int)=0:=rfl
       go_loopg [2,3,4,5,6,8] 0 (fun _ a2 a3 a4 a5 a6 iv wx=>a2=.bool false∧a3=.string s∧a4=.string ⟨#[]⟩∧a5=.bool false∧a6=.bool false∧iv=.int .i64 0∧wr=wx)
       case atStart=>exact⟨rfl,rfl,rfl,rfl,rfl,rfl,rfl⟩
       case round=>
        obtain⟨rfl,rfl,rfl,rfl,rfl,rfl,rfl⟩:=hrel
        by_cases h0:s.size=0
        ·have hlz:¬ (0:Int)<(s.size:Int):=by omega
         go_wp2_with fail
         (try simp only [Exit.inBlock,Exit.then])
         refine bodyPost_ret (results_tmp5 rfl _ _) rfl ⟨fun h=>?_,fun _=>?_,HXW.out⟩
         ·rw [HF.out.2.2.2,h0] at h
          cases h
         ·exact⟨_,_,_,_,by simp; exact⟨rfl,rfl,rfl,rfl⟩⟩
        ·have hlz:(0:Int)<(s.size:Int):=by omega
         go_wp2_with fail
         (try simp only [Exit.inBlock,Exit.then])
         refine bodyPost_ret (results_tmp5 rfl _ _) rfl ⟨fun h=>?_,fun h=>?_,HXW.out⟩
         ·rw [HF.out.1,HF.out.2.1,HF.out.2.2.1,S_B]
          simp [S]
          (try omega)
         ·rw [HF.out.2.2.2,decide_eq_true (by omega)] at h
          cases h
      case pos=>
      have hltz:(k:Int)<(s.size:Int):=by omega
      have HW:=zz (fun w=>digit01_walk (s[k]'hcs) w)
      rw [HC.out.out hcs] at HW
      by_cases h46:(s[k]'hcs).toNat=46
      case neg=>
       have hgf:=HC.out.bad hcs h46
       obtain⟨x,hx⟩:∃ x,(s[k]'hcs).toNat=x:=⟨_,rfl⟩
       have hx9:x<256:=by rw [←hx]; exact UInt8.toNat_lt _
       rw [hx] at HW h46
       have hxb:((x:Int)==46)=false:=beq_eq_false_iff_ne.2 (by omega)
       have hxi:(s[k]'hcs).toNat=x:=hx
       go_wp2_with fail
       refine (HW.out _).mono ?_
       rintro e w1 ⟨rfl,rfl⟩
       go_wp2_with fail
       (try simp only [Exit.inBlock,Exit.then])
       refine bodyPost_ret (results_tmp5 rfl _ _) rfl ⟨fun h=>?_,fun h=>⟨_,_,_,_,rfl⟩,HXW.out⟩
       rw [hgf] at h
       cases h
      case pos=>
      obtain⟨p1,p2,p3,p4⟩:=HC.out.pt hcs h46
      simp only [h46] at HW
      have hxb:(((s[k]'hcs).toNat:Int)==46)=true:=by rw [h46]; rfl
      obtain⟨u,hu⟩:∃ u,S ((B s).drop (k+1))=u:=⟨_,rfl⟩
      have hBu:(B s).drop (k+1)=B u:=by rw [←hu,B_S]
      have hex1:s.extract 0 k=S ((B s).take k):=by rw [S_ext,List.drop_zero]
      have hex2:s.extract (k+1) s.size=u:=by rw [S_tail,hu]
      have hul:u.size+(k+1)=s.size:=by rw [←hu,S_size,List.length_drop,B_len]; omega
      have hwl:(S ((B s).take k)).size=k:=by rw [S_size,List.length_take,B_len]; omega
      obtain⟨wh,hwh⟩:∃ wh,S ((B s).take k)=wh:=⟨_,rfl⟩
      rw [hBu] at p2 p4
      rw [hwh] at hex1 hwl
      have HP:=zz5 ⟨p1,p2,p3,p4,hwh⟩
      have hkz1:(k:Int)+1≤(s.size:Int):=by omega
      clear p1 p2 p3 p4 hu hBu hwh
      go_wp2_with fail
      refine (HW.out _).mono ?_
      rintro e w1 ⟨rfl,rfl⟩
      go_wp2_with fail
      (try rw [hex1])
      (try rw [hex2])
      clear hxb hex1 hex2 hkz1
      go_loopg [2,3,4,5,6,8] u.size (fun g a2 a3 a4 a5 a6 iv wx=>∃ j:Nat,a2=.bool false∧a3=.string wh∧a4=.string u∧a5=.bool true∧a6=.bool false∧g+j=u.size∧iv=.int .i64 j∧((B u).drop j).all digB=(B u).all digB∧wr=wx)
      case atStart=>exact⟨0,rfl,rfl,rfl,rfl,rfl,by omega,rfl,rfl,rfl⟩
      case round=>
       obtain⟨j,rfl,rfl,rfl,rfl,rfl,hgj,rfl,hd,rfl⟩:=hrel
       by_cases hju:j<u.size
       ·obtain⟨g,rfl⟩:∃ g,gk=g+1:=⟨gk - 1,by omega⟩
        have hjz:(j:Int)<(u.size:Int):=by omega
        rw [B_at u j hju,List.all_cons] at hd
        have HW2:=zz (fun w=>digit01_walk (u[j]'hju) w)
        cases hcd:digB (u[j]'hju) with
        | true=>
         rw [hcd,Bool.true_and] at hd
         rw [hcd] at HW2
         have HD:=zz hd
         clear hd hcd
         go_wp2_with fail
         refine (HW2.out _).mono ?_
         rintro e w1 ⟨rfl,rfl⟩
         go_wp2_with fail
         go_roundg g
         case measure=>omega
         case rel=>exact⟨j+1,rfl,rfl,rfl,rfl,rfl,by omega,by go_num,HD.out,rfl⟩
        | false=>
         rw [hcd,Bool.false_and] at hd
         rw [hcd] at HW2
         have HD:=zz hd
         clear hd hcd
         go_wp2_with fail
         refine (HW2.out _).mono ?_
         rintro e w1 ⟨rfl,rfl⟩
         go_wp2_with fail
         (try simp only [Exit.inBlock,Exit.then])
         refine bodyPost_ret (results_tmp5 rfl _ _) rfl ⟨fun h=>?_,fun h=>⟨_,_,_,_,rfl⟩,HXW.out⟩
         rw [HP.out.2.2.2.1,←HD.out] at h
         cases h
       ·obtain rfl:gk=0:=by omega
        have hjz:¬ (j:Int)<(u.size:Int):=by omega
        rw [List.drop_of_length_le (by rw [B_len]; omega)] at hd
        have hd:true=(B u).all digB:=hd
        have HD:=zz hd
        clear hd
        by_cases h0:0<wh.size+u.size
        ·have hlz:(0:Int)<(wh.size:Int)+(u.size:Int):=by omega
         have hwl':=hwl
         clear hwl
         have HWl:=zz hwl'
         have b1:wh.size≤1000000:=by omega
         have b2:u.size≤1000000:=by omega
         clear hwl'
         go_wp2_with fail
         (try simp only [Exit.inBlock,Exit.then])
         refine bodyPost_ret (results_tmp5 rfl _ _) rfl ⟨fun h=>?_,fun h=>?_,HXW.out⟩
         ·rw [HP.out.1,HP.out.2.1,HP.out.2.2.1,HP.out.2.2.2.2,S_B]
          simp
         ·rw [HP.out.2.2.2.1,←HD.out,B_len,decide_eq_true (by have:=HWl.out; omega)] at h
          cases h
        ·have hlz:¬ (0:Int)<(wh.size:Int)+(u.size:Int):=by omega
         have hwl':=hwl
         clear hwl
         have HWl:=zz hwl'
         have b1:wh.size≤1000000:=by omega
         have b2:u.size≤1000000:=by omega
         clear hwl'
         go_wp2_with fail
         (try simp only [Exit.inBlock,Exit.then])
         refine bodyPost_ret (results_tmp5 rfl _ _) rfl ⟨fun h=>?_,fun h=>?_,HXW.out⟩
         ·rw [HP.out.2.2.2.1,←HD.out,B_len,decide_eq_false (by have:=HWl.out; omega)] at h
          cases h
         ·exact⟨_,_,_,_,by simp; exact⟨rfl,rfl,rfl,rfl⟩⟩
theorem last_parts (s:ByteArray):(s.size=0∧B s=[])∨∃ (n:Nat) (h:n<s.size) (v:Nat) (l:List UInt8),s.size=n+1∧(s[n]'h).toNat=v∧v<256∧B s=l++[UInt8.ofNat v]∧s.extract 0 n=S l:=by
 rcases List.eq_nil_or_concat (B s) with h | ⟨l,x,h⟩
 ·exact .inl ⟨by rw [←B_len,h]; rfl,h⟩
 ·have h:=h
  rw [List.concat_eq_append] at h
  have hl:s.size=l.length+1:=by rw [←B_len,h]; simp
  have hx:s[l.length]'(by omega)=x:=by
   have h2:=B_at s l.length (by omega)
   rw [h,List.drop_left] at h2
   exact (List.cons.inj h2).1.symm
  refine .inr ⟨l.length,by omega,x.toNat,l,hl,by rw [hx],x.toNat_lt,by rw [h]; simp,?_⟩
  rw [S_ext,h,List.take_left,List.drop_zero]
theorem tl_48 (l:List UInt8):tl (48::l)=tl l:=by simp [tl,Lib.trimLeftB]
theorem tl_not {x:UInt8} (l:List UInt8) (h:x≠48):tl (x::l)=x::l:=by simp [tl,Lib.trimLeftB,h]
theorem tr_48 (l:List UInt8):tr (l++[48])=tr l:=by simp [tr,Lib.trimRightB]
theorem tr_not {x:UInt8} (l:List UInt8) (h:x≠48):tr (l++[x])=l++[x]:=by simp [tr,Lib.trimRightB,h]
theorem canon_walk (s r:ByteArray) (w:World) (hs:s.size≤1000000) (hr:r.size≤1000000):Calls Tryz.prog 148 #[.string s,.string r] w fun e w'=>e=.returned (.tuple #[.string (S (tl (B s))),.string (S (tr (B r)))])∧w=w':=by
 obtain⟨A,hA⟩:∃ A,tl (B s)=A:=⟨_,rfl⟩
 obtain⟨C,hC⟩:∃ C,tr (B r)=C:=⟨_,rfl⟩
 rw [hA,hC]
 have HA:=zz2 ⟨hA,hC⟩
 clear hA hC
 go_enter Tryz.func148,Tryz.ntmps148
 go_wp2_with fail
 go_loopg [0] s.size (fun g sv wr=>∃ t:ByteArray,sv=.string t∧g=t.size∧t.size≤1000000∧tl (B t)=A∧w=wr)
 case atStart=>exact⟨s,rfl,rfl,hs,HA.out.1,rfl⟩
 case round=>
  obtain⟨t,rfl,rfl,htl,hA,rfl⟩:=hrel
  rcases head_parts t with ⟨h0,hB,he⟩ | ⟨he,h0,x,l,hx,hx9,hB,ht⟩
  ·have hz:¬ (0:Int)<(t.size:Int):=by omega
   have hAt:S A=t:=by rw [←hA,hB]; show S []=t; rw [←S_B t,hB]
   have HT:=zz hAt
   clear hB he hA hAt h0
   go_wp2_with fail
   go_loopg [1] r.size (fun g sv wr=>∃ u:ByteArray,sv=.string u∧g=u.size∧u.size≤1000000∧tr (B u)=C∧w=wr)
   case atStart=>exact⟨r,rfl,rfl,hr,HA.out.2,rfl⟩
   case round=>
   obtain⟨u,rfl,rfl,hul,hC,rfl⟩:=hrel
   rcases last_parts u with ⟨h0,hB⟩ | ⟨n,hn,x,l,hun,hx,hx9,hB,hex⟩
   ·have hz:¬ (0:Int)<(u.size:Int):=by omega
    have hCu:S C=u:=by rw [←hC,hB]; show S []=u; rw [←S_B u,hB]
    have HU:=zz hCu
    clear hB hC hCu h0
    go_wp2_with fail
    go_ret2
    exact⟨by rw [HT.out,HU.out]; rfl,rfl⟩
   ·have hz:(0:Int)<(u.size:Int):=by omega
    have hsz:(u.size:Int) - 1=(n:Int):=by omega
    have hnz:(n:Int)<(u.size:Int):=by omega
    have hnz2:(n:Int)≤(u.size:Int):=by omega
    by_cases h48:x=48
    ·subst h48
     have hC2:tr (B (S l))=C:=by rw [←hC,hB,B_S]; exact (tr_48 l).symm
     have hls:(S l).size=n:=by have:=congrArg List.length hB; rw [B_len,List.length_append,List.length_singleton] at this; rw [S_size]; omega
     generalize S l=u2 at hex hC2 hls
     have HU:=zz3 ⟨hC2,hls,hun⟩
     clear hB hC hC2 hls hun
     go_wp2_with fail
     go_roundg u2.size
     case measure=>have:=HU.out.2; omega
     case rel=>exact⟨u2,rfl,rfl,by have:=HU.out.2; omega,HU.out.1,rfl⟩
    ·have hxb:((x:Int)==48)=false:=beq_eq_false_iff_ne.2 (by omega)
     have hCu:S C=u:=by
      rw [←hC,hB,tr_not l (fun e=>h48 (by have:=congrArg UInt8.toNat e; simp at this; omega)),←hB]; rfl
     have HU:=zz hCu
     clear hB hC hCu h48 hex hun
     go_wp2_with fail
     go_ret2
     exact⟨by rw [HT.out,HU.out]; rfl,rfl⟩
  ·by_cases h48:x=48
   ·subst h48
    have hz:(0:Int)<(t.size:Int):=by omega
    have h1z:(1:Int)≤(t.size:Int):=by omega
    have hA2:tl (B (S l))=A:=by rw [←hA,hB,B_S]; exact (tl_48 l).symm
    have hsz:(S l).size+1=t.size:=by have:=congrArg List.length hB; rw [B_len] at this; rw [S_size]; simpa using this.symm
    generalize S l=t2 at ht hA2 hsz
    have HT:=zz hA2
    clear hB he hA hA2
    go_wp2_with fail
    go_roundg t2.size
    case measure=>omega
    case rel=>exact⟨t2,rfl,rfl,by omega,HT.out,rfl⟩
   ·have hz:(0:Int)<(t.size:Int):=by omega
    have hxb:((x:Int)==48)=false:=beq_eq_false_iff_ne.2 (by omega)
    have hAt:S A=t:=by
     rw [←hA,hB,tl_not l (fun e=>h48 (by have:=congrArg UInt8.toNat e; simp at this; omega)),←hB]; rfl
    have HT:=zz hAt
    clear hB he hA hAt h48 ht
    go_wp2_with fail
    go_loopg [1] r.size (fun g sv wr=>∃ u:ByteArray,sv=.string u∧g=u.size∧u.size≤1000000∧tr (B u)=C∧w=wr)
    case atStart=>exact⟨r,rfl,rfl,hr,HA.out.2,rfl⟩
    case round=>
    obtain⟨u,rfl,rfl,hul,hC,rfl⟩:=hrel
    rcases last_parts u with ⟨h0,hB⟩ | ⟨n,hn,x,l,hun,hx,hx9,hB,hex⟩
    ·have hz:¬ (0:Int)<(u.size:Int):=by omega
     have hCu:S C=u:=by rw [←hC,hB]; show S []=u; rw [←S_B u,hB]
     have HU:=zz hCu
     clear hB hC hCu h0
     go_wp2_with fail
     go_ret2
     exact⟨by rw [HT.out,HU.out]; rfl,rfl⟩
    ·have hz:(0:Int)<(u.size:Int):=by omega
     have hsz:(u.size:Int) - 1=(n:Int):=by omega
     have hnz:(n:Int)<(u.size:Int):=by omega
     have hnz2:(n:Int)≤(u.size:Int):=by omega
     by_cases h48:x=48
     ·subst h48
      have hC2:tr (B (S l))=C:=by rw [←hC,hB,B_S]; exact (tr_48 l).symm
      have hls:(S l).size=n:=by have:=congrArg List.length hB; rw [B_len,List.length_append,List.length_singleton] at this; rw [S_size]; omega
      generalize S l=u2 at hex hC2 hls
      have HU:=zz3 ⟨hC2,hls,hun⟩
      clear hB hC hC2 hls hun
      go_wp2_with fail
      go_roundg u2.size
      case measure=>have:=HU.out.2; omega
      case rel=>exact⟨u2,rfl,rfl,by have:=HU.out.2; omega,HU.out.1,rfl⟩
     ·have hxb:((x:Int)==48)=false:=beq_eq_false_iff_ne.2 (by omega)
      have hCu:S C=u:=by
       rw [←hC,hB,tr_not l (fun e=>h48 (by have:=congrArg UInt8.toNat e; simp at this; omega)),←hB]; rfl
      have HU:=zz hCu
      clear hB hC hCu h48 hex hun
      go_wp2_with fail
      go_ret2
      exact⟨by rw [HT.out,HU.out]; rfl,rfl⟩
theorem tl_le (l:List UInt8):(tl l).length≤l.length:=by unfold tl Lib.trimLeftB; exact (List.dropWhile_sublist _).length_le
theorem tr_le (l:List UInt8):(tr l).length≤l.length:=by
 unfold tr Lib.trimRightB
 rw [List.length_reverse]
 have:=(List.dropWhile_sublist (l:=l.reverse) (fun x:UInt8=>x==48)).length_le
 rwa [List.length_reverse] at this
theorem real02_walk (s:ByteArray) (w:World) (hs:s.size≤1000000):Calls Tryz.prog 124 #[.string s] w fun e w'=>e=.returned (.tuple #[.string (S (realN (B s)).1),.int .i64 (realN (B s)).2])∧Ext [] w w':=by
 have H:=zz (split_walk s w hs)
 obtain⟨R,hR⟩:∃ R,realN (B s)=R:=⟨_,rfl⟩
 rw [hR]
 have hc:cutN (B s)=if goodL (sgnR (B s)) then ⟨if hasL (sgnR (B s)) then 2 else 1,sgnB (B s),befL (sgnR (B s)),aftL (sgnR (B s))⟩ else ⟨0,false,[],[]⟩:=rfl
 have hle:=bef_sum (sgnR (B s))
 have hsr:(sgnR (B s)).length≤1000000:=by
  have:(sgnR (B s)).length≤(B s).length:=by unfold sgnR; split <;> simp
  rw [B_len] at this
  omega
 cases hg:goodL (sgnR (B s)) with
 | false=>
  have hRv:R=([],7):=by
   rw [←hR,realN,hc,hg]
   rfl
  subst hRv
  rw [hg] at H
  clear hR hc hle hsr hg
  go_enter Tryz.func124,Tryz.ntmps124
  go_wp2_with fail
  refine H.out.mono ?_
  rintro e w1 ⟨-,h,hx⟩
  obtain⟨n,a,b,p,rfl⟩:=h (by simp)
  have HX:=zz hx
  clear hx H
  go_wp2_with fail
  go_ret2
  exact⟨rfl,HX.out⟩
 | true=>
 rw [hg] at H hc
 rw [if_pos rfl] at hc
 obtain⟨ng,hng⟩:∃ b,sgnB (B s)=b:=⟨_,rfl⟩
 obtain⟨a,ha⟩:∃ b,befL (sgnR (B s))=b:=⟨_,rfl⟩
 obtain⟨b,hb⟩:∃ b,aftL (sgnR (B s))=b:=⟨_,rfl⟩
 obtain⟨pt,hpt⟩:∃ b,hasL (sgnR (B s))=b:=⟨_,rfl⟩
 rw [hng,ha,hb,hpt] at H hc
 rw [ha,hb] at hle
 clear hng ha hb hpt hg
 cases pt with
 | false=>
  have hRv:R=([],7):=by
   rw [←hR,realN,hc]
   rfl
  subst hRv
  clear hR hc hle hsr
  go_enter Tryz.func124,Tryz.ntmps124
  go_wp2_with fail
  refine H.out.mono ?_
  rintro e w1 ⟨h,-,hx⟩
  obtain rfl:=h (by simp)
  have HX:=zz hx
  clear hx H h
  go_wp2_with fail
  go_ret2
  exact⟨rfl,HX.out⟩
 | true=>
 have hc:cutN (B s)=⟨2,ng,a,b⟩:=hc
 have hsa:(S a).size=a.length:=rfl
 have hsb:(S b).size=b.length:=rfl
 obtain⟨sa,hsa'⟩:∃ x,S a=x:=⟨_,rfl⟩
 obtain⟨sb,hsb'⟩:∃ x,S b=x:=⟨_,rfl⟩
 have hba:B sa=a:=by rw [←hsa']; rfl
 have hbb:B sb=b:=by rw [←hsb']; rfl
 rw [hsa',hsb'] at H
 rw [hsa'] at hsa
 rw [hsb'] at hsb
 have hl1:sa.size+sb.size≤1000000:=by omega
 rw [realN,hc] at hR
 have hk:¬ ((2:Nat)≠2):=by simp
 rw [if_neg hk,longN] at hR
 simp only at hR
 by_cases hlong:64<a.length+b.length
 ·have hRv:R=([],3):=by rw [←hR,if_pos (by simpa using hlong)]
  subst hRv
  have hz:(64:Int)<(sa.size:Int)+(sb.size:Int):=by omega
  clear hR hc hle hsr hba hbb hsa' hsb' hsa hsb hlong hk
  go_enter Tryz.func124,Tryz.ntmps124
  go_wp2_with fail
  refine H.out.mono ?_
  rintro e w1 ⟨h,-,hx⟩
  obtain rfl:=h (by simp)
  have HX:=zz hx
  clear hx H h
  go_wp2_with fail
  go_ret2
  exact⟨rfl,HX.out⟩
 ·rw [if_neg (by simpa using hlong)] at hR
  have hz:¬ (64:Int)<(sa.size:Int)+(sb.size:Int):=by omega
  have HC:=zz (fun W=>canon_walk sa sb W (by omega) (by omega))
  rw [hba,hbb] at HC
  unfold bareN at hR
  simp only at hR
  obtain⟨c,hcc⟩:∃ c,tl a=c:=⟨_,rfl⟩
  obtain⟨d,hdd⟩:∃ d,tr b=d:=⟨_,rfl⟩
  have hcl:=tl_le a
  have hdl:=tr_le b
  rw [hcc] at HC hR hcl
  rw [hdd] at HC hR hdl
  have HR:=zz hR
  have HL:=zz3 ⟨hcl,hdl,hlong⟩
  clear hR hc hle hsr hba hbb hsa' hsb' hsa hsb hlong hk hcc hdd hcl hdl
  go_enter Tryz.func124,Tryz.ntmps124
  go_wp2_with fail
  refine H.out.mono ?_
  rintro e w1 ⟨h,-,hx⟩
  obtain rfl:=h (by simp)
  have HX:=zz hx
  clear hx H h
  go_wp2_with fail
  refine (HC.out _).mono ?_
  rintro e w2 ⟨rfl,rfl⟩
  clear HC hz
  obtain⟨sC,hsC⟩:∃ x,S c=x:=⟨_,rfl⟩
  obtain⟨sD,hsD⟩:∃ x,S d=x:=⟨_,rfl⟩
  have hCl:sC.size=c.length:=by rw [←hsC]; rfl
  have hDl:sD.size=d.length:=by rw [←hsD]; rfl
  have b1:sC.size≤1000000:=by have:=HL.out; omega
  have b2:sD.size≤1000000:=by have:=HL.out; omega
  rw [hsC,hsD]
  clear hc
  by_cases h1:c=[]
  ·skip
   by_cases h2:d=[]
   ·skip
    cases ng with
    | false=>
     have hneg:(false && !(c++d).isEmpty)=false:=by cases c <;> cases d <;> simp_all
     have HRR:=HR.out
     rw [hneg] at HRR
     have ho1:(orS c).length=1:=by cases c <;> simp_all [orS]
     have ho2:(orS d).length=1:=by cases d <;> simp_all [orS]
     have hw1:S (orS c)=⟨#[48]⟩:=by cases c <;> simp_all [orS,S]
     have hw2:S (orS d)=⟨#[48]⟩:=by cases d <;> simp_all [orS,S]
     have z1:((sC.size:Int)==0)=true:=by rw [hCl,h1]; rfl
     have z2:((sD.size:Int)==0)=true:=by rw [hDl,h2]; rfl
     have z3:True:=trivial
     have z4:sC.size=0:=by rw [hCl,h1]; rfl
     have z5:sD.size=0:=by rw [hDl,h2]; rfl
     by_cases hlong:64<(orS c).length+(orS d).length
     ·have hRv:R=([],3):=by rw [←HRR,if_pos (by simpa [longN] using hlong)]
      subst hRv
      omega
     ·have hRv:R=(txtN ⟨2,false,c,d⟩,0):=by rw [←HRR,if_neg (by simpa [longN] using hlong)]
      have hT:S (txtN ⟨2,false,c,d⟩)=⟨#[48]⟩++⟨#[46]⟩++⟨#[48]⟩:=by
       have e:S (txtN ⟨2,false,c,d⟩)=S (orS c)++S [46]++S (orS d):=by
        rw [txtN]
        simp only [S_app]
        (try rfl)
       rw [e,hw1,hw2]
       (try rfl)
      have HT:=zz hT
      clear hneg HRR ho1 ho2 hw1 hw2 hlong h1 h2 HR HL hCl hDl hsC hsD hT
      go_wp2_with fail
      go_ret2
      exact⟨by rw [hRv,HT.out]; rfl,HX.out⟩
    | true=>
     have hneg:(true && !(c++d).isEmpty)=false:=by cases c <;> cases d <;> simp_all
     have HRR:=HR.out
     rw [hneg] at HRR
     have ho1:(orS c).length=1:=by cases c <;> simp_all [orS]
     have ho2:(orS d).length=1:=by cases d <;> simp_all [orS]
     have hw1:S (orS c)=⟨#[48]⟩:=by cases c <;> simp_all [orS,S]
     have hw2:S (orS d)=⟨#[48]⟩:=by cases d <;> simp_all [orS,S]
     have z1:((sC.size:Int)==0)=true:=by rw [hCl,h1]; rfl
     have z2:((sD.size:Int)==0)=true:=by rw [hDl,h2]; rfl
     have z3:¬ (0:Int)<(sC.size:Int)+(sD.size:Int):=by rw [hCl,hDl,h1,h2]; simp
     have z4:sC.size=0:=by rw [hCl,h1]; rfl
     have z5:sD.size=0:=by rw [hDl,h2]; rfl
     by_cases hlong:64<(orS c).length+(orS d).length
     ·have hRv:R=([],3):=by rw [←HRR,if_pos (by simpa [longN] using hlong)]
      subst hRv
      omega
     ·have hRv:R=(txtN ⟨2,false,c,d⟩,0):=by rw [←HRR,if_neg (by simpa [longN] using hlong)]
      have hT:S (txtN ⟨2,false,c,d⟩)=⟨#[48]⟩++⟨#[46]⟩++⟨#[48]⟩:=by
       have e:S (txtN ⟨2,false,c,d⟩)=S (orS c)++S [46]++S (orS d):=by
        rw [txtN]
        simp only [S_app]
        (try rfl)
       rw [e,hw1,hw2]
       (try rfl)
      have HT:=zz hT
      clear hneg HRR ho1 ho2 hw1 hw2 hlong h1 h2 HR HL hCl hDl hsC hsD hT
      go_wp2_with fail
      go_ret2
      exact⟨by rw [hRv,HT.out]; rfl,HX.out⟩
   ·skip
    cases ng with
    | false=>
     have hneg:(false && !(c++d).isEmpty)=false:=by cases c <;> cases d <;> simp_all
     have HRR:=HR.out
     rw [hneg] at HRR
     have ho1:(orS c).length=1:=by cases c <;> simp_all [orS]
     have ho2:(orS d).length=d.length:=by cases d <;> simp_all [orS]
     have hw1:S (orS c)=⟨#[48]⟩:=by cases c <;> simp_all [orS,S]
     have hw2:S (orS d)=sD:=by cases d <;> simp_all [orS,S]
     have z1:((sC.size:Int)==0)=true:=by rw [hCl,h1]; rfl
     have z2:((sD.size:Int)==0)=false:=beq_eq_false_iff_ne.2 (by have:=List.length_pos_iff.2 h2; omega)
     have z3:True:=trivial
     have z4:sC.size=0:=by rw [hCl,h1]; rfl
     by_cases hlong:64<(orS c).length+(orS d).length
     ·have hRv:R=([],3):=by rw [←HRR,if_pos (by simpa [longN] using hlong)]
      have hz:(64:Int)<1+(sD.size:Int):=by omega
      subst hRv
      clear hneg HRR ho1 ho2 hw1 hw2 hlong h1 h2 HR HL hCl hDl hsC hsD
      go_wp2_with fail
      go_ret2
      exact⟨rfl,HX.out⟩
     ·have hRv:R=(txtN ⟨2,false,c,d⟩,0):=by rw [←HRR,if_neg (by simpa [longN] using hlong)]
      have hz:¬ (64:Int)<1+(sD.size:Int):=by omega
      have hT:S (txtN ⟨2,false,c,d⟩)=⟨#[48]⟩++⟨#[46]⟩++sD:=by
       have e:S (txtN ⟨2,false,c,d⟩)=S (orS c)++S [46]++S (orS d):=by
        rw [txtN]
        simp only [S_app]
        (try rfl)
       rw [e,hw1,hw2]
       (try rfl)
      have HT:=zz hT
      clear hneg HRR ho1 ho2 hw1 hw2 hlong h1 h2 HR HL hCl hDl hsC hsD hT
      go_wp2_with fail
      go_ret2
      exact⟨by rw [hRv,HT.out]; rfl,HX.out⟩
    | true=>
     have hneg:(true && !(c++d).isEmpty)=true:=by cases c <;> cases d <;> simp_all
     have HRR:=HR.out
     rw [hneg] at HRR
     have ho1:(orS c).length=1:=by cases c <;> simp_all [orS]
     have ho2:(orS d).length=d.length:=by cases d <;> simp_all [orS]
     have hw1:S (orS c)=⟨#[48]⟩:=by cases c <;> simp_all [orS,S]
     have hw2:S (orS d)=sD:=by cases d <;> simp_all [orS,S]
     have z1:((sC.size:Int)==0)=true:=by rw [hCl,h1]; rfl
     have z2:((sD.size:Int)==0)=false:=beq_eq_false_iff_ne.2 (by have:=List.length_pos_iff.2 h2; omega)
     have z3 :  (0:Int)<(sC.size:Int)+(sD.size:Int):=by have:=List.length_pos_iff.2 h2; omega
     have z4:sC.size=0:=by rw [hCl,h1]; rfl
     by_cases hlong:64<(orS c).length+(orS d).length
     ·have hRv:R=([],3):=by rw [←HRR,if_pos (by simpa [longN] using hlong)]
      have hz:(64:Int)<1+(sD.size:Int):=by omega
      subst hRv
      clear hneg HRR ho1 ho2 hw1 hw2 hlong h1 h2 HR HL hCl hDl hsC hsD
      go_wp2_with fail
      go_ret2
      exact⟨rfl,HX.out⟩
     ·have hRv:R=(txtN ⟨2,true,c,d⟩,0):=by rw [←HRR,if_neg (by simpa [longN] using hlong)]
      have hz:¬ (64:Int)<1+(sD.size:Int):=by omega
      have hT:S (txtN ⟨2,true,c,d⟩)=⟨#[45]⟩++⟨#[48]⟩++⟨#[46]⟩++sD:=by
       have e:S (txtN ⟨2,true,c,d⟩)=S [45]++S (orS c)++S [46]++S (orS d):=by
        rw [txtN]
        simp only [S_app]
        (try rfl)
       rw [e,hw1,hw2]
       (try rfl)
      have HT:=zz hT
      clear hneg HRR ho1 ho2 hw1 hw2 hlong h1 h2 HR HL hCl hDl hsC hsD hT
      go_wp2_with fail
      go_ret2
      exact⟨by rw [hRv,HT.out]; rfl,HX.out⟩
  ·skip
   by_cases h2:d=[]
   ·skip
    cases ng with
    | false=>
     have hneg:(false && !(c++d).isEmpty)=false:=by cases c <;> cases d <;> simp_all
     have HRR:=HR.out
     rw [hneg] at HRR
     have ho1:(orS c).length=c.length:=by cases c <;> simp_all [orS]
     have ho2:(orS d).length=1:=by cases d <;> simp_all [orS]
     have hw1:S (orS c)=sC:=by cases c <;> simp_all [orS,S]
     have hw2:S (orS d)=⟨#[48]⟩:=by cases d <;> simp_all [orS,S]
     have z1:((sC.size:Int)==0)=false:=beq_eq_false_iff_ne.2 (by have:=List.length_pos_iff.2 h1; omega)
     have z2:((sD.size:Int)==0)=true:=by rw [hDl,h2]; rfl
     have z3:True:=trivial
     have z5:sD.size=0:=by rw [hDl,h2]; rfl
     by_cases hlong:64<(orS c).length+(orS d).length
     ·have hRv:R=([],3):=by rw [←HRR,if_pos (by simpa [longN] using hlong)]
      have hz:(64:Int)<(sC.size:Int)+1:=by omega
      subst hRv
      clear hneg HRR ho1 ho2 hw1 hw2 hlong h1 h2 HR HL hCl hDl hsC hsD
      go_wp2_with fail
      go_ret2
      exact⟨rfl,HX.out⟩
     ·have hRv:R=(txtN ⟨2,false,c,d⟩,0):=by rw [←HRR,if_neg (by simpa [longN] using hlong)]
      have hz:¬ (64:Int)<(sC.size:Int)+1:=by omega
      have hT:S (txtN ⟨2,false,c,d⟩)=sC++⟨#[46]⟩++⟨#[48]⟩:=by
       have e:S (txtN ⟨2,false,c,d⟩)=S (orS c)++S [46]++S (orS d):=by
        rw [txtN]
        simp only [S_app]
        (try rfl)
       rw [e,hw1,hw2]
       (try rfl)
      have HT:=zz hT
      clear hneg HRR ho1 ho2 hw1 hw2 hlong h1 h2 HR HL hCl hDl hsC hsD hT
      go_wp2_with fail
      go_ret2
      exact⟨by rw [hRv,HT.out]; rfl,HX.out⟩
    | true=>
     have hneg:(true && !(c++d).isEmpty)=true:=by cases c <;> cases d <;> simp_all
     have HRR:=HR.out
     rw [hneg] at HRR
     have ho1:(orS c).length=c.length:=by cases c <;> simp_all [orS]
     have ho2:(orS d).length=1:=by cases d <;> simp_all [orS]
     have hw1:S (orS c)=sC:=by cases c <;> simp_all [orS,S]
     have hw2:S (orS d)=⟨#[48]⟩:=by cases d <;> simp_all [orS,S]
     have z1:((sC.size:Int)==0)=false:=beq_eq_false_iff_ne.2 (by have:=List.length_pos_iff.2 h1; omega)
     have z2:((sD.size:Int)==0)=true:=by rw [hDl,h2]; rfl
     have z3 :  (0:Int)<(sC.size:Int)+(sD.size:Int):=by have:=List.length_pos_iff.2 h1; omega
     have z5:sD.size=0:=by rw [hDl,h2]; rfl
     by_cases hlong:64<(orS c).length+(orS d).length
     ·have hRv:R=([],3):=by rw [←HRR,if_pos (by simpa [longN] using hlong)]
      have hz:(64:Int)<(sC.size:Int)+1:=by omega
      subst hRv
      clear hneg HRR ho1 ho2 hw1 hw2 hlong h1 h2 HR HL hCl hDl hsC hsD
      go_wp2_with fail
      go_ret2
      exact⟨rfl,HX.out⟩
     ·have hRv:R=(txtN ⟨2,true,c,d⟩,0):=by rw [←HRR,if_neg (by simpa [longN] using hlong)]
      have hz:¬ (64:Int)<(sC.size:Int)+1:=by omega
      have hT:S (txtN ⟨2,true,c,d⟩)=⟨#[45]⟩++sC++⟨#[46]⟩++⟨#[48]⟩:=by
       have e:S (txtN ⟨2,true,c,d⟩)=S [45]++S (orS c)++S [46]++S (orS d):=by
        rw [txtN]
        simp only [S_app]
        (try rfl)
       rw [e,hw1,hw2]
       (try rfl)
      have HT:=zz hT
      clear hneg HRR ho1 ho2 hw1 hw2 hlong h1 h2 HR HL hCl hDl hsC hsD hT
      go_wp2_with fail
      go_ret2
      exact⟨by rw [hRv,HT.out]; rfl,HX.out⟩
   ·skip
    cases ng with
    | false=>
     have hneg:(false && !(c++d).isEmpty)=false:=by cases c <;> cases d <;> simp_all
     have HRR:=HR.out
     rw [hneg] at HRR
     have ho1:(orS c).length=c.length:=by cases c <;> simp_all [orS]
     have ho2:(orS d).length=d.length:=by cases d <;> simp_all [orS]
     have hw1:S (orS c)=sC:=by cases c <;> simp_all [orS,S]
     have hw2:S (orS d)=sD:=by cases d <;> simp_all [orS,S]
     have z1:((sC.size:Int)==0)=false:=beq_eq_false_iff_ne.2 (by have:=List.length_pos_iff.2 h1; omega)
     have z2:((sD.size:Int)==0)=false:=beq_eq_false_iff_ne.2 (by have:=List.length_pos_iff.2 h2; omega)
     have z3:True:=trivial
     by_cases hlong:64<(orS c).length+(orS d).length
     ·have hRv:R=([],3):=by rw [←HRR,if_pos (by simpa [longN] using hlong)]
      have hz:(64:Int)<(sC.size:Int)+(sD.size:Int):=by omega
      subst hRv
      clear hneg HRR ho1 ho2 hw1 hw2 hlong h1 h2 HR HL hCl hDl hsC hsD
      go_wp2_with fail
      go_ret2
      exact⟨rfl,HX.out⟩
     ·have hRv:R=(txtN ⟨2,false,c,d⟩,0):=by rw [←HRR,if_neg (by simpa [longN] using hlong)]
      have hz:¬ (64:Int)<(sC.size:Int)+(sD.size:Int):=by omega
      have hT:S (txtN ⟨2,false,c,d⟩)=sC++⟨#[46]⟩++sD:=by
       have e:S (txtN ⟨2,false,c,d⟩)=S (orS c)++S [46]++S (orS d):=by
        rw [txtN]
        simp only [S_app]
        (try rfl)
       rw [e,hw1,hw2]
       (try rfl)
      have HT:=zz hT
      clear hneg HRR ho1 ho2 hw1 hw2 hlong h1 h2 HR HL hCl hDl hsC hsD hT
      go_wp2_with fail
      go_ret2
      exact⟨by rw [hRv,HT.out]; rfl,HX.out⟩
    | true=>
     have hneg:(true && !(c++d).isEmpty)=true:=by cases c <;> cases d <;> simp_all
     have HRR:=HR.out
     rw [hneg] at HRR
     have ho1:(orS c).length=c.length:=by cases c <;> simp_all [orS]
     have ho2:(orS d).length=d.length:=by cases d <;> simp_all [orS]
     have hw1:S (orS c)=sC:=by cases c <;> simp_all [orS,S]
     have hw2:S (orS d)=sD:=by cases d <;> simp_all [orS,S]
     have z1:((sC.size:Int)==0)=false:=beq_eq_false_iff_ne.2 (by have:=List.length_pos_iff.2 h1; omega)
     have z2:((sD.size:Int)==0)=false:=beq_eq_false_iff_ne.2 (by have:=List.length_pos_iff.2 h2; omega)
     have z3 :  (0:Int)<(sC.size:Int)+(sD.size:Int):=by have:=List.length_pos_iff.2 h1; omega
     by_cases hlong:64<(orS c).length+(orS d).length
     ·have hRv:R=([],3):=by rw [←HRR,if_pos (by simpa [longN] using hlong)]
      have hz:(64:Int)<(sC.size:Int)+(sD.size:Int):=by omega
      subst hRv
      clear hneg HRR ho1 ho2 hw1 hw2 hlong h1 h2 HR HL hCl hDl hsC hsD
      go_wp2_with fail
      go_ret2
      exact⟨rfl,HX.out⟩
     ·have hRv:R=(txtN ⟨2,true,c,d⟩,0):=by rw [←HRR,if_neg (by simpa [longN] using hlong)]
      have hz:¬ (64:Int)<(sC.size:Int)+(sD.size:Int):=by omega
      have hT:S (txtN ⟨2,true,c,d⟩)=⟨#[45]⟩++sC++⟨#[46]⟩++sD:=by
       have e:S (txtN ⟨2,true,c,d⟩)=S [45]++S (orS c)++S [46]++S (orS d):=by
        rw [txtN]
        simp only [S_app]
        (try rfl)
       rw [e,hw1,hw2]
       (try rfl)
      have HT:=zz hT
      clear hneg HRR ho1 ho2 hw1 hw2 hlong h1 h2 HR HL hCl hDl hsC hsD hT
      go_wp2_with fail
      go_ret2
      exact⟨by rw [hRv,HT.out]; rfl,HX.out⟩
end Nu
namespace Tr
open Go.RowKit
theorem idx_ge:∀ l:List UInt8,-1≤Lib.indexByte l 0
 | []=>by simp [Lib.indexByte]
 | y::l=>by
  have:=idx_ge l
  rw [Lib.indexByte]
  split
  ·omega
  ·split <;> omega
theorem idx0:∀ l:List UInt8,(0≤Lib.indexByte l 0)↔l.any (fun x=>decide (x.toNat=0))=true
 | []=>by simp [Lib.indexByte]
 | x::l=>by
  have ih:=idx0 l
  rw [Lib.indexByte,List.any_cons]
  by_cases hx:x=0
  ·subst hx; simp
  ·have h1:(x==0)=false:=beq_eq_false_iff_ne.2 hx
   have h2:¬ x.toNat=0:=fun e=>hx (UInt8.toNat_inj.1 (by rw [e]; rfl))
   rw [h1,decide_eq_false h2,Bool.false_or,←ih]
   have hm:=idx_ge l
   by_cases hz:Lib.indexByte l 0 = -1
   ·simp [hz]
   ·have hb:(Lib.indexByte l 0 == -1)=false:=beq_eq_false_iff_ne.2 hz
    simp only [hb]
    simp
    omega
theorem name03_walk (s:ByteArray) (w:World):Calls Tryz.prog 54 #[.string s] w fun e w'=>e=.returned (.int .i64 (nameN s))∧Ext [] w w':=by
 by_cases q1:127<s.size
 ·have q1z:(127:Int)<(s.size:Int):=by omega
  have hR:nameN s=3:=if_pos q1
  rw [hR]
  clear hR
  go_enter Tryz.func54,Tryz.ntmps54
  go_wp2_with fail
  go_ret
  exact⟨rfl,Ext.refl _ _⟩
 have q1z:¬ (127:Int)<(s.size:Int):=by omega
 have hR:nameN s=if (Nu.B s).any (fun x=>decide (x.toNat=0)) then 2 else 0:=by
  rw [nameN,if_neg q1]
  have:=idx0 (Nu.B s)
  by_cases h:0≤Lib.indexByte s.data.toList 0
  ·rw [if_pos h,if_pos (this.1 h)]
  ·rw [if_neg h,if_neg (fun h2=>h (this.2 h2))]
 obtain⟨R,hRR⟩:∃ R,nameN s=R:=⟨_,rfl⟩
 rw [hRR] at hR ⊢
 have HR:=zz hR.symm
 clear hR hRR
 have hs9:s.size≤127:=by omega
 go_enter Tryz.func54,Tryz.ntmps54
 go_wp2_with fail
 go_loopg [3] s.size (fun g iv wr=>∃ k:Nat,g+k=s.size∧iv=.int .i64 k∧(if ((Nu.B s).drop k).any (fun x=>decide (x.toNat=0)) then (2:Int) else 0)=R∧w=wr)
 case atStart=>exact⟨0,by omega,rfl,HR.out,rfl⟩
 case round=>
  obtain⟨k,hgk,rfl,hd,rfl⟩:=hrel
  by_cases hlt:k<s.size
  ·obtain⟨g,rfl⟩:∃ g,gk=g+1:=⟨gk - 1,by omega⟩
   have hltz:(k:Int)<(s.size:Int):=by omega
   rw [Nu.B_at s k hlt,List.any_cons] at hd
   by_cases h0:(s[k]'hlt).toNat=0
   ·rw [decide_eq_true h0,Bool.true_or,if_pos rfl] at hd
    subst hd
    clear HR
    go_wp2_with fail
    go_ret
    exact⟨rfl,Ext.refl _ _⟩
   ·rw [decide_eq_false h0,Bool.false_or] at hd
    have HD:=zz hd
    obtain⟨x,hx⟩:∃ x,(s[k]'hlt).toNat=x:=⟨_,rfl⟩
    have hxb:((x:Int)==0)=false:=beq_eq_false_iff_ne.2 (by rw [hx] at h0; omega)
    clear hd h0
    go_wp2_with fail
    go_roundg g
    case measure=>omega
    case rel=>exact⟨k+1,by omega,by go_num,HD.out,rfl⟩
  ·obtain rfl:k=s.size:=by omega
   rw [List.drop_of_length_le (by rw [Nu.B_len]; exact Nat.le_refl _)] at hd
   obtain rfl:(0:Int)=R:=hd
   clear HR
   go_wp2_with fail
   go_ret
   exact⟨rfl,Ext.refl _ _⟩
theorem plain_1 (n gen:Int) (s:ByteArray) (L:List Int) (base:Option Addr) (cap:Nat) (w:World) :
  Calls Tryz.prog 78 #[.agg #[.int .i64 1,.int .i64 n,.int .i64 gen,.string s,.slice base L.length cap]] w fun e w'=>e=.returned (.bool (bareN ⟨1,n,gen,s,L⟩))∧Ext [] w w':=by
 by_cases c1:0<L.length
 ·have c1z:(0:Int)<(L.length:Int):=by omega
  have hR:bareN ⟨1,n,gen,s,L⟩=false:=by simp [bareN,c1]
  rw [hR]
  clear hR
  go_enter Tryz.func78,Tryz.ntmps78
  go_upto_region 1 with (fail)
  go_quiet (fail)
  go_wp2_with fail
  all_goals first | (exfalso; omega) | (go_ret; exact⟨rfl,((Ext.refl [] w).alloc _).drewN _⟩)
 have c1z:¬ (0:Int)<(L.length:Int):=by omega
 by_cases c2:s=⟨#[]⟩
 case neg=>
  have c2b:s.toList.isEmpty=false:=some_bytes c2
  have hR:bareN ⟨1,n,gen,s,L⟩=false:=by simp [bareN,c1,c2]
  rw [hR]
  clear hR
  go_enter Tryz.func78,Tryz.ntmps78
  go_upto_region 1 with (fail)
  go_quiet (fail)
  go_wp2_with fail
  all_goals first | (exfalso; omega) | (go_ret; exact⟨rfl,((Ext.refl [] w).alloc _).drewN _⟩)
 subst c2
 by_cases c3:n=0
 case neg=>
  have c3b:(n != 0)=true:=bne_iff_ne.2 c3
  have c3e:(n==0)=false:=beq_eq_false_iff_ne.2 c3
  have hR:bareN ⟨1,n,gen,⟨#[]⟩,L⟩=false:=by simp [bareN,c1,c3]
  rw [hR]
  clear hR
  by_cases c4:gen=0
  ·subst c4
   go_enter Tryz.func78,Tryz.ntmps78
   go_upto_region 1 with (fail)
   go_quiet (fail)
   go_wp2_with fail
   all_goals first | (exfalso; omega) | (go_ret; exact⟨rfl,((Ext.refl [] w).alloc _).drewN _⟩)
  ·have c4b:(gen != 0)=true:=bne_iff_ne.2 c4
   go_enter Tryz.func78,Tryz.ntmps78
   go_upto_region 1 with (fail)
   go_quiet (fail)
   go_wp2_with fail
   all_goals first | (exfalso; omega) | (go_ret; exact⟨rfl,((Ext.refl [] w).alloc _).drewN _⟩)
 subst c3
 by_cases c4:gen=0
 case neg=>
  have c4b:(gen != 0)=true:=bne_iff_ne.2 c4
  have hR:bareN ⟨1,0,gen,⟨#[]⟩,L⟩=false:=by simp [bareN,c1,c4]
  rw [hR]
  clear hR
  go_enter Tryz.func78,Tryz.ntmps78
  go_upto_region 1 with (fail)
  go_quiet (fail)
  go_wp2_with fail
  all_goals first | (exfalso; omega) | (go_ret; exact⟨rfl,((Ext.refl [] w).alloc _).drewN _⟩)
 subst c4
 have hR:bareN ⟨1,0,0,⟨#[]⟩,L⟩=true:=by simp [bareN,c1]
 rw [hR]
 clear hR
 go_enter Tryz.func78,Tryz.ntmps78
 go_upto_region 1 with (fail)
 go_quiet (fail)
 go_wp2_with fail
 all_goals first | (exfalso; omega) | (go_ret; exact⟨rfl,((Ext.refl [] w).alloc _).drewN _⟩)
theorem plain_6 (n gen:Int) (s:ByteArray) (L:List Int) (base:Option Addr) (cap:Nat) (w:World) :
  Calls Tryz.prog 78 #[.agg #[.int .i64 6,.int .i64 n,.int .i64 gen,.string s,.slice base L.length cap]] w fun e w'=>e=.returned (.bool (bareN ⟨6,n,gen,s,L⟩))∧Ext [] w w':=by
 by_cases c1:0<L.length
 ·have c1z:(0:Int)<(L.length:Int):=by omega
  have hR:bareN ⟨6,n,gen,s,L⟩=false:=by simp [bareN,c1]
  rw [hR]
  clear hR
  go_enter Tryz.func78,Tryz.ntmps78
  go_upto_region 1 with (fail)
  go_quiet (fail)
  go_wp2_with fail
  all_goals first | (exfalso; omega) | (go_ret; exact⟨rfl,((Ext.refl [] w).alloc _).drewN _⟩)
 have c1z:¬ (0:Int)<(L.length:Int):=by omega
 by_cases c3:n=0
 case neg=>
  have c3b:(n != 0)=true:=bne_iff_ne.2 c3
  have c3e:(n==0)=false:=beq_eq_false_iff_ne.2 c3
  have hR:bareN ⟨6,n,gen,s,L⟩=false:=by simp [bareN,c1,c3]
  rw [hR]
  clear hR
  by_cases c4:gen=0
  ·subst c4
   go_enter Tryz.func78,Tryz.ntmps78
   go_upto_region 1 with (fail)
   go_quiet (fail)
   go_wp2_with fail
   all_goals first | (exfalso; omega) | (go_ret; exact⟨rfl,((Ext.refl [] w).alloc _).drewN _⟩)
  ·have c4b:(gen != 0)=true:=bne_iff_ne.2 c4
   go_enter Tryz.func78,Tryz.ntmps78
   go_upto_region 1 with (fail)
   go_quiet (fail)
   go_wp2_with fail
   all_goals first | (exfalso; omega) | (go_ret; exact⟨rfl,((Ext.refl [] w).alloc _).drewN _⟩)
 subst c3
 by_cases c4:gen=0
 case neg=>
  have c4b:(gen != 0)=true:=bne_iff_ne.2 c4
  have hR:bareN ⟨6,0,gen,s,L⟩=false:=by simp [bareN,c1,c4]
  rw [hR]
  clear hR
  go_enter Tryz.func78,Tryz.ntmps78
  go_upto_region 1 with (fail)
  go_quiet (fail)
  go_wp2_with fail
  all_goals first | (exfalso; omega) | (go_ret; exact⟨rfl,((Ext.refl [] w).alloc _).drewN _⟩)
 subst c4
 have H:=zz (fun w=>name03_walk s w)
 have hR:bareN ⟨6,0,0,s,L⟩=decide (nameN s=0):=by simp [bareN,c1]
 rw [hR]
 generalize nameN s=z at *
 clear hR
 by_cases d1:z=0
 ·subst d1
  rw [decide_eq_true rfl]
  go_enter Tryz.func78,Tryz.ntmps78
  go_upto_region 1 with (fail)
  go_quiet (fail)
  go_wp2_with fail
  refine (H.out _).mono ?_
  rintro e w' ⟨rfl,hx⟩
  have HX:=zz ((((Ext.refl [] w).alloc _).drewN _).trans hx)
  clear hx
  go_wp2_with fail
  go_ret
  exact⟨rfl,HX.out⟩
 ·rw [decide_eq_false d1]
  have d1b:(z==0)=false:=beq_eq_false_iff_ne.2 d1
  go_enter Tryz.func78,Tryz.ntmps78
  go_upto_region 1 with (fail)
  go_quiet (fail)
  go_wp2_with fail
  refine (H.out _).mono ?_
  rintro e w' ⟨rfl,hx⟩
  have HX:=zz ((((Ext.refl [] w).alloc _).drewN _).trans hx)
  clear hx
  go_wp2_with fail
  go_ret
  exact⟨rfl,HX.out⟩
theorem plain_8 (n gen:Int) (s:ByteArray) (L:List Int) (base:Option Addr) (cap:Nat) (w:World) :
  Calls Tryz.prog 78 #[.agg #[.int .i64 8,.int .i64 n,.int .i64 gen,.string s,.slice base L.length cap]] w fun e w'=>e=.returned (.bool (bareN ⟨8,n,gen,s,L⟩))∧Ext [] w w':=by
 by_cases c2:s=⟨#[]⟩
 case neg=>
  have c2b:s.toList.isEmpty=false:=some_bytes c2
  have hR:bareN ⟨8,n,gen,s,L⟩=false:=by simp [bareN,c2]
  rw [hR]
  clear hR
  go_enter Tryz.func78,Tryz.ntmps78
  go_upto_region 1 with (fail)
  go_quiet (fail)
  go_wp2_with fail
  all_goals first | (exfalso; omega) | (go_ret; exact⟨rfl,((Ext.refl [] w).alloc _).drewN _⟩)
 subst c2
 by_cases c3:n=0
 case neg=>
  have c3b:(n != 0)=true:=bne_iff_ne.2 c3
  have c3e:(n==0)=false:=beq_eq_false_iff_ne.2 c3
  have hR:bareN ⟨8,n,gen,⟨#[]⟩,L⟩=false:=by simp [bareN,c3]
  rw [hR]
  clear hR
  by_cases c4:gen=0
  ·subst c4
   go_enter Tryz.func78,Tryz.ntmps78
   go_upto_region 1 with (fail)
   go_quiet (fail)
   go_wp2_with fail
   all_goals first | (exfalso; omega) | (go_ret; exact⟨rfl,((Ext.refl [] w).alloc _).drewN _⟩)
  ·have c4b:(gen != 0)=true:=bne_iff_ne.2 c4
   go_enter Tryz.func78,Tryz.ntmps78
   go_upto_region 1 with (fail)
   go_quiet (fail)
   go_wp2_with fail
   all_goals first | (exfalso; omega) | (go_ret; exact⟨rfl,((Ext.refl [] w).alloc _).drewN _⟩)
 subst c3
 by_cases c4:gen=0
 case neg=>
  have c4b:(gen != 0)=true:=bne_iff_ne.2 c4
  have hR:bareN ⟨8,0,gen,⟨#[]⟩,L⟩=false:=by simp [bareN,c4]
  rw [hR]
  clear hR
  go_enter Tryz.func78,Tryz.ntmps78
  go_upto_region 1 with (fail)
  go_quiet (fail)
  go_wp2_with fail
  all_goals first | (exfalso; omega) | (go_ret; exact⟨rfl,((Ext.refl [] w).alloc _).drewN _⟩)
 subst c4
 have hR:bareN ⟨8,0,0,⟨#[]⟩,L⟩=true:=by simp [bareN]
 rw [hR]
 clear hR
 go_enter Tryz.func78,Tryz.ntmps78
 go_upto_region 1 with (fail)
 go_quiet (fail)
 go_wp2_with fail
 all_goals first | (exfalso; omega) | (go_ret; exact⟨rfl,((Ext.refl [] w).alloc _).drewN _⟩)
theorem plain_x (k:Int) (hk:k<1∨9<k) (n gen:Int) (s:ByteArray) (L:List Int) (base:Option Addr) (cap:Nat) (w:World) :
  Calls Tryz.prog 78 #[.agg #[.int .i64 k,.int .i64 n,.int .i64 gen,.string s,.slice base L.length cap]] w fun e w'=>e=.returned (.bool (bareN ⟨k,n,gen,s,L⟩))∧Ext [] w w':=by
 have k1:k≠1:=by omega
 have k2:k≠2:=by omega
 have k3:k≠3:=by omega
 have k4:k≠4:=by omega
 have k5:k≠5:=by omega
 have k6:k≠6:=by omega
 have k7:k≠7:=by omega
 have k8:k≠8:=by omega
 have k9:k≠9:=by omega
 have b1:(k==1)=false:=beq_eq_false_iff_ne.2 k1
 have b2:(k==2)=false:=beq_eq_false_iff_ne.2 k2
 have b3:(k==3)=false:=beq_eq_false_iff_ne.2 k3
 have b4:(k==4)=false:=beq_eq_false_iff_ne.2 k4
 have b5:(k==5)=false:=beq_eq_false_iff_ne.2 k5
 have b6:(k==6)=false:=beq_eq_false_iff_ne.2 k6
 have b7:(k==7)=false:=beq_eq_false_iff_ne.2 k7
 have b8:(k==8)=false:=beq_eq_false_iff_ne.2 k8
 have b9:(k==9)=false:=beq_eq_false_iff_ne.2 k9
 have hk46:(¬ 4≤k)∨(4≤k∧¬ k≤6):=by omega
 have b9n:(k != 9)=true:=bne_iff_ne.2 k9
 have hR:bareN ⟨k,n,gen,s,L⟩=false:=by simp [bareN,k1,k2,k3,k4,k5,k6,k7,k8,k9]
 rw [hR]
 clear hR k1 k2 k3 k4 k5 k6 k7 k8 k9 hk
 rcases hk46 with hk4 | ⟨hk4,hk6⟩
 ·by_cases c1:0<L.length
  ·have c1z:(0:Int)<(L.length:Int):=by omega
   go_enter Tryz.func78,Tryz.ntmps78
   go_upto_region 1 with (fail)
   go_quiet (fail)
   go_wp2_with fail
   all_goals first | (exfalso; omega) | (go_ret; exact⟨rfl,((Ext.refl [] w).alloc _).drewN _⟩)
  have c1z:¬ (0:Int)<(L.length:Int):=by omega
  by_cases c2:s=⟨#[]⟩
  case neg=>
   have c2b:s.toList.isEmpty=false:=some_bytes c2
   go_enter Tryz.func78,Tryz.ntmps78
   go_upto_region 1 with (fail)
   go_quiet (fail)
   go_wp2_with fail
   all_goals first | (exfalso; omega) | (go_ret; exact⟨rfl,((Ext.refl [] w).alloc _).drewN _⟩)
  subst c2
  by_cases c3:n=0
  case neg=>
   have c3b:(n != 0)=true:=bne_iff_ne.2 c3
   have c3e:(n==0)=false:=beq_eq_false_iff_ne.2 c3
   by_cases c4:gen=0
   ·subst c4
    go_enter Tryz.func78,Tryz.ntmps78
    go_upto_region 1 with (fail)
    go_quiet (fail)
    go_wp2_with fail
    all_goals first | (exfalso; omega) | (go_ret; exact⟨rfl,((Ext.refl [] w).alloc _).drewN _⟩)
   ·have c4b:(gen != 0)=true:=bne_iff_ne.2 c4
    go_enter Tryz.func78,Tryz.ntmps78
    go_upto_region 1 with (fail)
    go_quiet (fail)
    go_wp2_with fail
    all_goals first | (exfalso; omega) | (go_ret; exact⟨rfl,((Ext.refl [] w).alloc _).drewN _⟩)
  subst c3
  by_cases c4:gen=0
  case neg=>
   have c4b:(gen != 0)=true:=bne_iff_ne.2 c4
   go_enter Tryz.func78,Tryz.ntmps78
   go_upto_region 1 with (fail)
   go_quiet (fail)
   go_wp2_with fail
   all_goals first | (exfalso; omega) | (go_ret; exact⟨rfl,((Ext.refl [] w).alloc _).drewN _⟩)
  subst c4
  go_enter Tryz.func78,Tryz.ntmps78
  go_upto_region 1 with (fail)
  go_quiet (fail)
  go_wp2_with fail
  all_goals first | (exfalso; omega) | (go_ret; exact⟨rfl,((Ext.refl [] w).alloc _).drewN _⟩)
 ·by_cases c1:0<L.length
  ·have c1z:(0:Int)<(L.length:Int):=by omega
   go_enter Tryz.func78,Tryz.ntmps78
   go_upto_region 1 with (fail)
   go_quiet (fail)
   go_wp2_with fail
   all_goals first | (exfalso; omega) | (go_ret; exact⟨rfl,((Ext.refl [] w).alloc _).drewN _⟩)
  have c1z:¬ (0:Int)<(L.length:Int):=by omega
  by_cases c2:s=⟨#[]⟩
  case neg=>
   have c2b:s.toList.isEmpty=false:=some_bytes c2
   go_enter Tryz.func78,Tryz.ntmps78
   go_upto_region 1 with (fail)
   go_quiet (fail)
   go_wp2_with fail
   all_goals first | (exfalso; omega) | (go_ret; exact⟨rfl,((Ext.refl [] w).alloc _).drewN _⟩)
  subst c2
  by_cases c3:n=0
  case neg=>
   have c3b:(n != 0)=true:=bne_iff_ne.2 c3
   have c3e:(n==0)=false:=beq_eq_false_iff_ne.2 c3
   by_cases c4:gen=0
   ·subst c4
    go_enter Tryz.func78,Tryz.ntmps78
    go_upto_region 1 with (fail)
    go_quiet (fail)
    go_wp2_with fail
    all_goals first | (exfalso; omega) | (go_ret; exact⟨rfl,((Ext.refl [] w).alloc _).drewN _⟩)
   ·have c4b:(gen != 0)=true:=bne_iff_ne.2 c4
    go_enter Tryz.func78,Tryz.ntmps78
    go_upto_region 1 with (fail)
    go_quiet (fail)
    go_wp2_with fail
    all_goals first | (exfalso; omega) | (go_ret; exact⟨rfl,((Ext.refl [] w).alloc _).drewN _⟩)
  subst c3
  by_cases c4:gen=0
  case neg=>
   have c4b:(gen != 0)=true:=bne_iff_ne.2 c4
   go_enter Tryz.func78,Tryz.ntmps78
   go_upto_region 1 with (fail)
   go_quiet (fail)
   go_wp2_with fail
   all_goals first | (exfalso; omega) | (go_ret; exact⟨rfl,((Ext.refl [] w).alloc _).drewN _⟩)
  subst c4
  go_enter Tryz.func78,Tryz.ntmps78
  go_upto_region 1 with (fail)
  go_quiet (fail)
  go_wp2_with fail
  all_goals first | (exfalso; omega) | (go_ret; exact⟨rfl,((Ext.refl [] w).alloc _).drewN _⟩)
theorem plain_5 (n gen:Int) (s:ByteArray) (L:List Int) (base:Option Addr) (cap:Nat) (w:World) :
  Calls Tryz.prog 78 #[.agg #[.int .i64 5,.int .i64 n,.int .i64 gen,.string s,.slice base L.length cap]] w fun e w'=>e=.returned (.bool (bareN ⟨5,n,gen,s,L⟩))∧Ext [] w w':=by
 by_cases c1:0<L.length
 ·have c1z:(0:Int)<(L.length:Int):=by omega
  have hR:bareN ⟨5,n,gen,s,L⟩=false:=by simp [bareN,c1]
  rw [hR]
  clear hR
  go_enter Tryz.func78,Tryz.ntmps78
  go_upto_region 1 with (fail)
  go_quiet (fail)
  go_wp2_with fail
  all_goals first | (exfalso; omega) | (go_ret; exact⟨rfl,((Ext.refl [] w).alloc _).drewN _⟩)
 have c1z:¬ (0:Int)<(L.length:Int):=by omega
 by_cases c3:n=0
 case neg=>
  have c3b:(n != 0)=true:=bne_iff_ne.2 c3
  have c3e:(n==0)=false:=beq_eq_false_iff_ne.2 c3
  have hR:bareN ⟨5,n,gen,s,L⟩=false:=by simp [bareN,c1,c3]
  rw [hR]
  clear hR
  by_cases c4:gen=0
  ·subst c4
   go_enter Tryz.func78,Tryz.ntmps78
   go_upto_region 1 with (fail)
   go_quiet (fail)
   go_wp2_with fail
   all_goals first | (exfalso; omega) | (go_ret; exact⟨rfl,((Ext.refl [] w).alloc _).drewN _⟩)
  ·have c4b:(gen != 0)=true:=bne_iff_ne.2 c4
   go_enter Tryz.func78,Tryz.ntmps78
   go_upto_region 1 with (fail)
   go_quiet (fail)
   go_wp2_with fail
   all_goals first | (exfalso; omega) | (go_ret; exact⟨rfl,((Ext.refl [] w).alloc _).drewN _⟩)
 subst c3
 by_cases c4:gen=0
 case neg=>
  have c4b:(gen != 0)=true:=bne_iff_ne.2 c4
  have hR:bareN ⟨5,0,gen,s,L⟩=false:=by simp [bareN,c1,c4]
  rw [hR]
  clear hR
  go_enter Tryz.func78,Tryz.ntmps78
  go_upto_region 1 with (fail)
  go_quiet (fail)
  go_wp2_with fail
  all_goals first | (exfalso; omega) | (go_ret; exact⟨rfl,((Ext.refl [] w).alloc _).drewN _⟩)
 subst c4
 by_cases d1:s.size≤65536
 ·have d1z:(s.size:Int)≤65536:=by omega
  have hR:bareN ⟨5,0,0,s,L⟩=true:=by simp [bareN,c1,d1]
  rw [hR]
  clear hR
  go_enter Tryz.func78,Tryz.ntmps78
  go_upto_region 1 with (fail)
  go_quiet (fail)
  go_wp2_with fail
  all_goals first | (exfalso; omega) | (go_ret; exact⟨rfl,((Ext.refl [] w).alloc _).drewN _⟩)
 ·have d1z:¬ (s.size:Int)≤65536:=by omega
  have hR:bareN ⟨5,0,0,s,L⟩=false:=by simp [bareN,c1,d1]
  rw [hR]
  clear hR
  go_enter Tryz.func78,Tryz.ntmps78
  go_upto_region 1 with (fail)
  go_quiet (fail)
  go_wp2_with fail
  all_goals first | (exfalso; omega) | (go_ret; exact⟨rfl,((Ext.refl [] w).alloc _).drewN _⟩)
theorem plain_7 (n gen:Int) (s:ByteArray) (L:List Int) (base:Option Addr) (cap:Nat) (w:World) :
  Calls Tryz.prog 78 #[.agg #[.int .i64 7,.int .i64 n,.int .i64 gen,.string s,.slice base L.length cap]] w fun e w'=>e=.returned (.bool (bareN ⟨7,n,gen,s,L⟩))∧Ext [] w w':=by
 by_cases c2:s=⟨#[]⟩
 case neg=>
  have c2b:s.toList.isEmpty=false:=some_bytes c2
  have hR:bareN ⟨7,n,gen,s,L⟩=false:=by simp [bareN,c2]
  rw [hR]
  clear hR
  go_enter Tryz.func78,Tryz.ntmps78
  go_upto_region 1 with (fail)
  go_quiet (fail)
  go_wp2_with fail
  all_goals first | (exfalso; omega) | (go_ret; exact⟨rfl,((Ext.refl [] w).alloc _).drewN _⟩)
 subst c2
 by_cases c3:n=0
 case neg=>
  have c3b:(n != 0)=true:=bne_iff_ne.2 c3
  have c3e:(n==0)=false:=beq_eq_false_iff_ne.2 c3
  have hR:bareN ⟨7,n,gen,⟨#[]⟩,L⟩=false:=by simp [bareN,c3]
  rw [hR]
  clear hR
  by_cases c4:gen=0
  ·subst c4
   go_enter Tryz.func78,Tryz.ntmps78
   go_upto_region 1 with (fail)
   go_quiet (fail)
   go_wp2_with fail
   all_goals first | (exfalso; omega) | (go_ret; exact⟨rfl,((Ext.refl [] w).alloc _).drewN _⟩)
  ·have c4b:(gen != 0)=true:=bne_iff_ne.2 c4
   go_enter Tryz.func78,Tryz.ntmps78
   go_upto_region 1 with (fail)
   go_quiet (fail)
   go_wp2_with fail
   all_goals first | (exfalso; omega) | (go_ret; exact⟨rfl,((Ext.refl [] w).alloc _).drewN _⟩)
 subst c3
 by_cases c4:gen=0
 case neg=>
  have c4b:(gen != 0)=true:=bne_iff_ne.2 c4
  have hR:bareN ⟨7,0,gen,⟨#[]⟩,L⟩=false:=by simp [bareN,c4]
  rw [hR]
  clear hR
  go_enter Tryz.func78,Tryz.ntmps78
  go_upto_region 1 with (fail)
  go_quiet (fail)
  go_wp2_with fail
  all_goals first | (exfalso; omega) | (go_ret; exact⟨rfl,((Ext.refl [] w).alloc _).drewN _⟩)
 subst c4
 have hR:bareN ⟨7,0,0,⟨#[]⟩,L⟩=true:=by simp [bareN]
 rw [hR]
 clear hR
 go_enter Tryz.func78,Tryz.ntmps78
 go_upto_region 1 with (fail)
 go_quiet (fail)
 go_wp2_with fail
 all_goals first | (exfalso; omega) | (go_ret; exact⟨rfl,((Ext.refl [] w).alloc _).drewN _⟩)
theorem plain_9 (n gen:Int) (s:ByteArray) (L:List Int) (base:Option Addr) (cap:Nat) (w:World) :
  Calls Tryz.prog 78 #[.agg #[.int .i64 9,.int .i64 n,.int .i64 gen,.string s,.slice base L.length cap]] w fun e w'=>e=.returned (.bool (bareN ⟨9,n,gen,s,L⟩))∧Ext [] w w':=by
 by_cases c1:0<L.length
 ·have c1z:(0:Int)<(L.length:Int):=by omega
  have hR:bareN ⟨9,n,gen,s,L⟩=false:=by simp [bareN,c1]
  rw [hR]
  clear hR
  go_enter Tryz.func78,Tryz.ntmps78
  go_upto_region 1 with (fail)
  go_quiet (fail)
  go_wp2_with fail
  all_goals first | (exfalso; omega) | (go_ret; exact⟨rfl,((Ext.refl [] w).alloc _).drewN _⟩)
 have c1z:¬ (0:Int)<(L.length:Int):=by omega
 by_cases c2:s=⟨#[]⟩
 case neg=>
  have c2b:s.toList.isEmpty=false:=some_bytes c2
  have hR:bareN ⟨9,n,gen,s,L⟩=false:=by simp [bareN,c1,c2]
  rw [hR]
  clear hR
  go_enter Tryz.func78,Tryz.ntmps78
  go_upto_region 1 with (fail)
  go_quiet (fail)
  go_wp2_with fail
  all_goals first | (exfalso; omega) | (go_ret; exact⟨rfl,((Ext.refl [] w).alloc _).drewN _⟩)
 subst c2
 by_cases d1:1≤n
 case neg=>
  have hR:bareN ⟨9,n,gen,⟨#[]⟩,L⟩=false:=by simp [bareN,c1,d1]
  rw [hR]
  clear hR
  go_enter Tryz.func78,Tryz.ntmps78
  go_upto_region 1 with (fail)
  go_quiet (fail)
  go_wp2_with fail
  all_goals first | (exfalso; omega) | (go_ret; exact⟨rfl,((Ext.refl [] w).alloc _).drewN _⟩)
 by_cases d2:n≤8388607
 case neg=>
  have hR:bareN ⟨9,n,gen,⟨#[]⟩,L⟩=false:=by simp [bareN,c1,d1,d2]
  rw [hR]
  clear hR
  go_enter Tryz.func78,Tryz.ntmps78
  go_upto_region 1 with (fail)
  go_quiet (fail)
  go_wp2_with fail
  all_goals first | (exfalso; omega) | (go_ret; exact⟨rfl,((Ext.refl [] w).alloc _).drewN _⟩)
 by_cases d3:0≤gen
 case neg=>
  have hR:bareN ⟨9,n,gen,⟨#[]⟩,L⟩=false:=by simp [bareN,c1,d1,d2,d3]
  rw [hR]
  clear hR
  go_enter Tryz.func78,Tryz.ntmps78
  go_upto_region 1 with (fail)
  go_quiet (fail)
  go_wp2_with fail
  all_goals first | (exfalso; omega) | (go_ret; exact⟨rfl,((Ext.refl [] w).alloc _).drewN _⟩)
 by_cases d4:gen≤65535
 case neg=>
  have hR:bareN ⟨9,n,gen,⟨#[]⟩,L⟩=false:=by simp [bareN,c1,d1,d2,d3,d4]
  rw [hR]
  clear hR
  go_enter Tryz.func78,Tryz.ntmps78
  go_upto_region 1 with (fail)
  go_quiet (fail)
  go_wp2_with fail
  all_goals first | (exfalso; omega) | (go_ret; exact⟨rfl,((Ext.refl [] w).alloc _).drewN _⟩)
 have hR:bareN ⟨9,n,gen,⟨#[]⟩,L⟩=true:=by simp [bareN,c1,d1,d2,d3,d4]
 rw [hR]
 clear hR
 go_enter Tryz.func78,Tryz.ntmps78
 go_upto_region 1 with (fail)
 go_quiet (fail)
 go_wp2_with fail
 all_goals first | (exfalso; omega) | (go_ret; exact⟨rfl,((Ext.refl [] w).alloc _).drewN _⟩)
theorem plain_2 (n gen:Int) (s:ByteArray) (L:List Int) (base:Option Addr) (cap:Nat) (w:World) :
  Calls Tryz.prog 78 #[.agg #[.int .i64 2,.int .i64 n,.int .i64 gen,.string s,.slice base L.length cap]] w fun e w'=>e=.returned (.bool (bareN ⟨2,n,gen,s,L⟩))∧Ext [] w w':=by
 by_cases c1:0<L.length
 ·have c1z:(0:Int)<(L.length:Int):=by omega
  have hR:bareN ⟨2,n,gen,s,L⟩=false:=by simp [bareN,c1]
  rw [hR]
  clear hR
  go_enter Tryz.func78,Tryz.ntmps78
  go_upto_region 1 with (fail)
  go_quiet (fail)
  go_wp2_with fail
  all_goals first | (exfalso; omega) | (go_ret; exact⟨rfl,((Ext.refl [] w).alloc _).drewN _⟩)
 have c1z:¬ (0:Int)<(L.length:Int):=by omega
 by_cases c2:s=⟨#[]⟩
 case neg=>
  have c2b:s.toList.isEmpty=false:=some_bytes c2
  have hR:bareN ⟨2,n,gen,s,L⟩=false:=by simp [bareN,c1,c2]
  rw [hR]
  clear hR
  go_enter Tryz.func78,Tryz.ntmps78
  go_upto_region 1 with (fail)
  go_quiet (fail)
  go_wp2_with fail
  all_goals first | (exfalso; omega) | (go_ret; exact⟨rfl,((Ext.refl [] w).alloc _).drewN _⟩)
 subst c2
 by_cases c4:gen=0
 case neg=>
  have c4b:(gen != 0)=true:=bne_iff_ne.2 c4
  have hR:bareN ⟨2,n,gen,⟨#[]⟩,L⟩=false:=by simp [bareN,c1,c4]
  rw [hR]
  clear hR
  go_enter Tryz.func78,Tryz.ntmps78
  go_upto_region 1 with (fail)
  go_quiet (fail)
  go_wp2_with fail
  all_goals first | (exfalso; omega) | (go_ret; exact⟨rfl,((Ext.refl [] w).alloc _).drewN _⟩)
 subst c4
 by_cases d1:n=0
 ·subst d1
  have hR:bareN ⟨2,0,0,⟨#[]⟩,L⟩=true:=by simp [bareN,c1]
  rw [hR]
  clear hR
  go_enter Tryz.func78,Tryz.ntmps78
  go_upto_region 1 with (fail)
  go_quiet (fail)
  go_wp2_with fail
  all_goals first | (exfalso; omega) | (go_ret; exact⟨rfl,((Ext.refl [] w).alloc _).drewN _⟩)
 ·have d1b:(n==0)=false:=beq_eq_false_iff_ne.2 d1
  by_cases d2:n=1
  ·subst d2
   have hR:bareN ⟨2,1,0,⟨#[]⟩,L⟩=true:=by simp [bareN,c1]
   rw [hR]
   clear hR
   go_enter Tryz.func78,Tryz.ntmps78
   go_upto_region 1 with (fail)
   go_quiet (fail)
   go_wp2_with fail
   all_goals first | (exfalso; omega) | (go_ret; exact⟨rfl,((Ext.refl [] w).alloc _).drewN _⟩)
  ·have d2b:(n==1)=false:=beq_eq_false_iff_ne.2 d2
   have hR:bareN ⟨2,n,0,⟨#[]⟩,L⟩=false:=by simp [bareN,c1,d1,d2]
   rw [hR]
   clear hR
   go_enter Tryz.func78,Tryz.ntmps78
   go_upto_region 1 with (fail)
   go_quiet (fail)
   go_wp2_with fail
   all_goals first | (exfalso; omega) | (go_ret; exact⟨rfl,((Ext.refl [] w).alloc _).drewN _⟩)
theorem plain_3 (n gen:Int) (s:ByteArray) (L:List Int) (base:Option Addr) (cap:Nat) (h0 : -9223372036854775808≤n) (h1:n≤9223372036854775807) (w:World) :
  Calls Tryz.prog 78 #[.agg #[.int .i64 3,.int .i64 n,.int .i64 gen,.string s,.slice base L.length cap]] w fun e w'=>e=.returned (.bool (bareN ⟨3,n,gen,s,L⟩))∧Ext [] w w':=by
 by_cases c1:0<L.length
 ·have c1z:(0:Int)<(L.length:Int):=by omega
  have hR:bareN ⟨3,n,gen,s,L⟩=false:=by simp [bareN,c1]
  rw [hR]
  clear hR
  go_enter Tryz.func78,Tryz.ntmps78
  go_upto_region 1 with (fail)
  go_quiet (fail)
  go_wp2_with fail
  all_goals first | (exfalso; omega) | (go_ret; exact⟨rfl,((Ext.refl [] w).alloc _).drewN _⟩)
 have c1z:¬ (0:Int)<(L.length:Int):=by omega
 by_cases c2:s=⟨#[]⟩
 case neg=>
  have c2b:s.toList.isEmpty=false:=some_bytes c2
  have hR:bareN ⟨3,n,gen,s,L⟩=false:=by simp [bareN,c1,c2]
  rw [hR]
  clear hR
  go_enter Tryz.func78,Tryz.ntmps78
  go_upto_region 1 with (fail)
  go_quiet (fail)
  go_wp2_with fail
  all_goals first | (exfalso; omega) | (go_ret; exact⟨rfl,((Ext.refl [] w).alloc _).drewN _⟩)
 subst c2
 by_cases c4:gen=0
 case neg=>
  have c4b:(gen != 0)=true:=bne_iff_ne.2 c4
  have hR:bareN ⟨3,n,gen,⟨#[]⟩,L⟩=false:=by simp [bareN,c1,c4]
  rw [hR]
  clear hR
  go_enter Tryz.func78,Tryz.ntmps78
  go_upto_region 1 with (fail)
  go_quiet (fail)
  go_wp2_with fail
  all_goals first | (exfalso; omega) | (go_ret; exact⟨rfl,((Ext.refl [] w).alloc _).drewN _⟩)
 subst c4
 by_cases d1:n < -2147483647
 ·by_cases d2:n = -9223372036854775808
  ·subst d2
   have hR:bareN ⟨3,(-9223372036854775808),0,⟨#[]⟩,L⟩=false:=by simp [bareN,c1]
   rw [hR]
   clear hR
   go_enter Tryz.func78,Tryz.ntmps78
   go_upto_region 1 with (fail)
   go_quiet (fail)
   go_wp2_with fail
   all_goals first | (exfalso; omega) | (go_ret; exact⟨rfl,((Ext.refl [] w).alloc _).drewN _⟩)
  ·have d3 : -9223372036854775808<n:=by omega
   have d4:¬ -2147483647≤n:=by omega
   have hR:bareN ⟨3,n,0,⟨#[]⟩,L⟩=false:=by simp [bareN,c1,d4]
   rw [hR]
   clear hR
   go_enter Tryz.func78,Tryz.ntmps78
   go_upto_region 1 with (fail)
   go_quiet (fail)
   go_wp2_with fail
   all_goals first | (exfalso; omega) | (go_ret; exact⟨rfl,((Ext.refl [] w).alloc _).drewN _⟩)
 ·by_cases d2:2147483647<n
  ·have d4:¬ n≤2147483647:=by omega
   have hR:bareN ⟨3,n,0,⟨#[]⟩,L⟩=false:=by simp [bareN,c1,d4]
   rw [hR]
   clear hR
   go_enter Tryz.func78,Tryz.ntmps78
   go_upto_region 1 with (fail)
   go_quiet (fail)
   go_wp2_with fail
   all_goals first | (exfalso; omega) | (go_ret; exact⟨rfl,((Ext.refl [] w).alloc _).drewN _⟩)
  ·have d3 : -2147483647≤n:=by omega
   have d4:n≤2147483647:=by omega
   have hR:bareN ⟨3,n,0,⟨#[]⟩,L⟩=true:=by simp [bareN,c1,d3,d4]
   rw [hR]
   clear hR
   go_enter Tryz.func78,Tryz.ntmps78
   go_upto_region 1 with (fail)
   go_quiet (fail)
   go_wp2_with fail
   all_goals first | (exfalso; omega) | (go_ret; exact⟨rfl,((Ext.refl [] w).alloc _).drewN _⟩)
theorem plain_4 (n gen:Int) (s:ByteArray) (L:List Int) (base:Option Addr) (cap:Nat) (hs:s.size≤1000000) (w:World) :
  Calls Tryz.prog 78 #[.agg #[.int .i64 4,.int .i64 n,.int .i64 gen,.string s,.slice base L.length cap]] w fun e w'=>e=.returned (.bool (bareN ⟨4,n,gen,s,L⟩))∧Ext [] w w':=by
 by_cases c1:0<L.length
 ·have c1z:(0:Int)<(L.length:Int):=by omega
  have hR:bareN ⟨4,n,gen,s,L⟩=false:=by simp [bareN,c1]
  rw [hR]
  clear hR
  go_enter Tryz.func78,Tryz.ntmps78
  go_upto_region 1 with (fail)
  go_quiet (fail)
  go_wp2_with fail
  all_goals first | (exfalso; omega) | (go_ret; exact⟨rfl,((Ext.refl [] w).alloc _).drewN _⟩)
 have c1z:¬ (0:Int)<(L.length:Int):=by omega
 by_cases c3:n=0
 case neg=>
  have c3b:(n != 0)=true:=bne_iff_ne.2 c3
  have c3e:(n==0)=false:=beq_eq_false_iff_ne.2 c3
  have hR:bareN ⟨4,n,gen,s,L⟩=false:=by simp [bareN,c1,c3]
  rw [hR]
  clear hR
  by_cases c4:gen=0
  ·subst c4
   have H:=zz (fun w=>Nu.real02_walk s w hs)
   go_enter Tryz.func78,Tryz.ntmps78
   go_upto_region 1 with (fail)
   go_quiet (fail)
   go_wp2_with fail
   refine (H.out _).mono ?_
   rintro e w' ⟨rfl,hx⟩
   have b1:w'.cell? ⟨w.heap.size,1,none⟩=some (.int .i64 n):=hx.cell (cellOf (heap_alloc_at _) 1)
   have HX:=zz ((((Ext.refl [] w).alloc _).drewN _).trans hx)
   clear hx
   go_wp2_with fail
   go_ret
   exact⟨rfl,HX.out⟩
  ·have c4b:(gen != 0)=true:=bne_iff_ne.2 c4
   go_enter Tryz.func78,Tryz.ntmps78
   go_upto_region 1 with (fail)
   go_quiet (fail)
   go_wp2_with fail
   all_goals first | (exfalso; omega) | (go_ret; exact⟨rfl,((Ext.refl [] w).alloc _).drewN _⟩)
 subst c3
 by_cases c4:gen=0
 case neg=>
  have c4b:(gen != 0)=true:=bne_iff_ne.2 c4
  have hR:bareN ⟨4,0,gen,s,L⟩=false:=by simp [bareN,c1,c4]
  rw [hR]
  clear hR
  go_enter Tryz.func78,Tryz.ntmps78
  go_upto_region 1 with (fail)
  go_quiet (fail)
  go_wp2_with fail
  all_goals first | (exfalso; omega) | (go_ret; exact⟨rfl,((Ext.refl [] w).alloc _).drewN _⟩)
 subst c4
 have H:=zz (fun w=>Nu.real02_walk s w hs)
 obtain⟨r1,r2,hr⟩:∃ r1 r2,Nu.realN (Nu.B s)=(r1,r2):=⟨_,_,rfl⟩
 rw [hr] at H
 have hR:bareN ⟨4,0,0,s,L⟩=decide (r2=0∧Nu.S r1=s):=by
  have e1:(Nu.S r1=s)↔r1=Nu.B s:=⟨fun h=>by rw [←h,Nu.B_S],fun h=>by rw [h,Nu.S_B]⟩
  simp [bareN,c1,hr,e1,and_comm]
 rw [hR]
 obtain⟨z,hz⟩:∃ z,Nu.S r1=z:=⟨_,rfl⟩
 simp only [hz] at H ⊢
 clear hR hr hz
 by_cases d1:r2=0
 ·subst d1
  by_cases d2:z=s
  ·subst d2
   rw [decide_eq_true (by exact⟨rfl,rfl⟩)]
   go_enter Tryz.func78,Tryz.ntmps78
   go_upto_region 1 with (fail)
   go_quiet (fail)
   go_wp2_with fail
   refine (H.out _).mono ?_
   rintro e w' ⟨rfl,hx⟩
   have b1:w'.cell? ⟨w.heap.size,1,none⟩=some (.int .i64 0):=hx.cell (cellOf (heap_alloc_at _) 1)
   have b3:w'.cell? ⟨w.heap.size,3,none⟩=some (.string z):=hx.cell (cellOf (heap_alloc_at _) 3)
   have HX:=zz ((((Ext.refl [] w).alloc _).drewN _).trans hx)
   clear hx
   go_wp2_with fail
   go_ret
   exact⟨rfl,HX.out⟩
  ·rw [decide_eq_false (by exact fun h=>d2 h.2)]
   have d2b:(z.toList==s.toList)=false:=beq_eq_false_iff_ne.2 (fun h=>d2 (bytes_eq h))
   go_enter Tryz.func78,Tryz.ntmps78
   go_upto_region 1 with (fail)
   go_quiet (fail)
   go_wp2_with fail
   refine (H.out _).mono ?_
   rintro e w' ⟨rfl,hx⟩
   have b1:w'.cell? ⟨w.heap.size,1,none⟩=some (.int .i64 0):=hx.cell (cellOf (heap_alloc_at _) 1)
   have b3:w'.cell? ⟨w.heap.size,3,none⟩=some (.string s):=hx.cell (cellOf (heap_alloc_at _) 3)
   have HX:=zz ((((Ext.refl [] w).alloc _).drewN _).trans hx)
   clear hx
   go_wp2_with fail
   go_ret
   exact⟨rfl,HX.out⟩
 ·rw [decide_eq_false (by exact fun h=>d1 h.1)]
  have d1b:(r2==0)=false:=beq_eq_false_iff_ne.2 d1
  go_enter Tryz.func78,Tryz.ntmps78
  go_upto_region 1 with (fail)
  go_quiet (fail)
  go_wp2_with fail
  refine (H.out _).mono ?_
  rintro e w' ⟨rfl,hx⟩
  have b1:w'.cell? ⟨w.heap.size,1,none⟩=some (.int .i64 0):=hx.cell (cellOf (heap_alloc_at _) 1)
  have b3:w'.cell? ⟨w.heap.size,3,none⟩=some (.string s):=hx.cell (cellOf (heap_alloc_at _) 3)
  have HX:=zz ((((Ext.refl [] w).alloc _).drewN _).trans hx)
  clear hx
  go_wp2_with fail
  go_ret
  exact⟨rfl,HX.out⟩
end Tr
end Go.Proofs.YtljachhmdogkdaaGreatDoor
