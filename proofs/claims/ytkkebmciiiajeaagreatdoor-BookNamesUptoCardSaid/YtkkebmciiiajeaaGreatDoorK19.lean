/- part 19 -/
import Derived.BigQuiet
import Derived.Test.YtkkebmciiiajeaaGreatDoorCards
import Derived.Test.YtkkebmciiiajeaaGreatDoorTie
import Derived.WalkKit
import Derived.Below
import Derived.ChangeSame
import Derived.ProofKit
import Derived.OpenShut
import Derived.SizedLaws
import Derived.Deep.DeepHandedRow
import Derived.Lib.LaidTab
import Derived.Lib.LaidU8T
import Derived.Deep.Slices
import Derived.ChangeArms
import Derived.WideShapes
import Derived.Test.YtkkebmciiiajeaaGreatDoorRows
import Derived.Test.YtkkebmciiiajeaaGreatDoorChecked
import Derived.Test.YtkkebmciiiajeaaGreatDoorK0
import Derived.Test.YtkkebmciiiajeaaGreatDoorK3
import Derived.Test.YtkkebmciiiajeaaGreatDoorK11
import Derived.Test.YtkkebmciiiajeaaGreatDoorK13
import Derived.Test.YtkkebmciiiajeaaGreatDoorK17
import Derived.Test.YtkkebmciiiajeaaGreatDoorK18
set_option linter.unusedSimpArgs false
set_option linter.unusedVariables false
set_option maxHeartbeats 16000000
set_option maxRecDepth 100000
namespace Go.Proofs.YtkkebmciiiajeaaGreatDoor
open Go.RowKit Go.Bd
def okM (c:UInt8):Bool:=!((decide (c.toNat<32)&&(!(c==9) && !(c==10))) || c==127)
def mayB (s:ByteArray):Bool:=decide (s.size≤65536)&&s.data.toList.all okM
theorem may_any (s:ByteArray) (w:World) (hs:s.size≤1000000000000):Calls Tryz.prog 47 #[.string s] w fun e w'=>e=.returned (.bool (mayB s))∧w=w':=by
 have HB:=Lib.hid (show mayB s=(decide (s.size≤65536)&&s.data.toList.all okM) from rfl)
 go_enter Tryz.func47,Tryz.ntmps47
 go_wp2_with fail
 ·go_ret
  refine⟨ret_bool ?_,rfl⟩;rw[HB.out,decide_eq_false (by omega)];rfl
 ·have hl:s.size≤65536:=by omega
  go_loopg [3] s.size (fun gk i wr=>wr=w∧∃k:Nat,k+gk=s.size∧i=.int .i64 k∧Hid ((s.data.toList.take k).all okM=true))
  case atStart=>exact⟨rfl,0,by omega,rfl,Lib.hid rfl⟩
  case round =>
   obtain⟨rfl,k,hk,rfl,HA⟩:=hrel
   by_cases hlt:k<s.size
   ·obtain⟨c,hc⟩:∃c,s[k]=c:=⟨_,rfl⟩;have hgood:okM c=true→Hid ((s.data.toList.take (k+1)).all okM=true):=fun h=>Lib.hid (by rw[all_take_ok okM s k hlt,HA.out,hc,h];rfl)
    have hbad:okM c=false→mayB s=false:=fun h=>by rw[HB.out,all_not okM s k hlt (by rw[hc];exact h),Bool.and_false]
    have HG:=hidH2 hgood hbad;clear hgood hbad
    by_cases h1:c.toNat<32
    ·by_cases h2:c.toNat=9
     ·have hn:Hid (okM c=true):=Lib.hid (by obtain rfl:c=9:=UInt8.toNat_inj.1 h2;rfl);have h2i:((c.toNat:Int)==9)=true:=by rw[h2];rfl
      have h4i:((c.toNat:Int)==127)=false:=by rw[h2];rfl
      go_wp2_with fail
      go_roundg (gk-1)
      case measure=>omega
      case rel=>exact⟨rfl,k+1,by omega,by go_num,HG.out.1 hn.out⟩
     ·have h2i:((c.toNat:Int)==9)=false:=by rw[beq_eq_false_iff_ne];omega
      by_cases h3:c.toNat=10
      ·have hn:Hid (okM c=true):=Lib.hid (by obtain rfl:c=10:=UInt8.toNat_inj.1 h3;rfl);have h3i:((c.toNat:Int)==10)=true:=by rw[h3];rfl
       have h4i:((c.toNat:Int)==127)=false:=by rw[h3];rfl
       go_wp2_with fail
       go_roundg (gk-1)
       case measure=>omega
       case rel=>exact⟨rfl,k+1,by omega,by go_num,HG.out.1 hn.out⟩
      ·have h3i:((c.toNat:Int)==10)=false:=by rw[beq_eq_false_iff_ne];omega
       have hn:Hid (okM c=false):=Lib.hid (by unfold okM;simp only[u8_eq];simp[h1,h2,h3])
       go_wp2_with fail
       go_ret
       exact⟨ret_bool (HG.out.2 hn.out).symm,rfl⟩
    ·by_cases h4:c.toNat=127
     ·have hn:Hid (okM c=false):=Lib.hid (by obtain rfl:c=127:=UInt8.toNat_inj.1 h4;rfl);have h4i:((c.toNat:Int)==127)=true:=by rw[h4];rfl
      go_wp2_with fail
      go_ret
      exact⟨ret_bool (HG.out.2 hn.out).symm,rfl⟩
     ·have h4i:((c.toNat:Int)==127)=false:=by rw[beq_eq_false_iff_ne];omega
      have hn:Hid (okM c=true):=Lib.hid (by unfold okM;simp only[u8_eq];simp[h1,h4])
      go_wp2_with fail
      go_roundg (gk-1)
      case measure=>omega
      case rel=>exact⟨rfl,k+1,by omega,by go_num,HG.out.1 hn.out⟩
   ·obtain rfl:k=s.size:=by omega
    go_wp2_with fail
    go_ret
    refine⟨ret_bool ?_,rfl⟩;have:=HA.out
    rw[List.take_of_length_le (by rw[size_lst];exact Nat.le_refl _)] at this;rw[HB.out,this,decide_eq_true hl];rfl
def preOk (src:List Sc):Nat→ByteArray→Bool
 | 0,_=>true
 | j+1,n=>match src[j]? with
  | none=>true
  | some p=>decide (p.name.data.toList<n.data.toList)
def bkAt (src:List Sc) (k:Nat):Bool :=
 match src[k]? with
 | none=>true
 | some s=>preOk src k s.name&&(pathB s.name.data.toList&&mayB s.text)
def bkFrom (src:List Sc):Nat→Nat→Bool
 | 0,_=>true
 | q+1,k=>bkAt src k&&bkFrom src q (k+1)
def bkCheck (src:List Sc):Bool:=decide (src.length≤64)&&bkFrom src src.length 0
theorem bcheck_any {w:World}{S:Nat→Prop}{v:Value}{l:List Sc} (hl:ScS w S v l) (hS:∀k,S k→k<w.heap.size) (hn:l.length≤1000000000) (hz:∀a∈l,a.name.size≤100000∧a.text.size≤100000){m:Int} (hg:Glob m w) :
  Calls Tryz.prog 27 #[v,.slice none 0 0] w fun e w'=>e=.returned (.bool (bkCheck l))∧Below w.heap.size w w':=by
 have hT:∀W,Below w.heap.size w W→Calls Tryz.prog 32 #[.slice none 0 0] W fun e w'=>e=.returned (.bool true)∧Below W.heap.size W w':=fun W _=>Check_any (w:=W) (S:=fun _=>False) (v:=.slice none 0 0) (l:=[]) (TwoS.nil W _) (fun k h=>h.elim) (Nat.zero_le _) (fun a h=>by cases h)
 have hP:∀(n:ByteArray),n.size≤100000→∀W,Below w.heap.size w W→Calls Tryz.prog 29 #[.string n] W fun e w'=>e=.returned (.bool (pathB n.data.toList))∧Below W.heap.size W w':=fun n h W hW=>path_any n W h (hg.chg (Chg.below hW (fun _=>False)) (fun _ h=>h.elim))
 obtain⟨A,c,rfl,hc,h1⟩:=hl;rw[List.length_map] at hc ⊢;obtain⟨nl,hnl⟩:∃nl,l.length=nl:=⟨_,rfl⟩;rw[hnl] at hc hn ⊢;have HN:=Lib.hid hnl;have H1:=Lib.hid h1;have HS:=Lib.hid hS;have HZ:=Lib.hid hz;have HC:=hidH2 hT hP;clear h1 hS hnl hz hT hP hg
 by_cases hbig:64<nl
 ·have hb2:¬(nl:Int)≤64:=by omega
  have hb3:(64:Int)<nl:=by omega
  go_enter Tryz.func27,Tryz.ntmps27
  go_wp2_with fail
  go_ret
  refine⟨ret_bool ?_,Below.refl _ _⟩;unfold bkCheck;rw[HN.out,decide_eq_false (by omega)];rfl
 have hb2:¬(64:Int)<nl:=by omega
 have hR:bkCheck l=bkFrom l nl 0:=by unfold bkCheck;rw[HN.out,decide_eq_true (by omega),Bool.true_and]
 have HRR:=Lib.hid hR;clear hR
 go_enter Tryz.func27,Tryz.ntmps27
 go_wp2_with fail
 go_loopg [17] nl (fun q i wr=>∃k:Nat,k+q=nl∧i=.int .i64 k∧Hid (Below w.heap.size w wr∧bkCheck l=bkFrom l q k))
 case atStart=>exact⟨0,by omega,rfl,Lib.hid ⟨Below.refl _ _,HRR.out⟩⟩
 case round =>
  obtain⟨k,hk,rfl,HR⟩:=hrel
  by_cases hlt:k<nl
  ·obtain⟨a,ha⟩:∃a,l[k]? = some a:=⟨_,List.getElem?_eq_getElem (by rw[HN.out];exact hlt)⟩;obtain⟨b,off,rfl,hSb,q0,q1⟩:=H1.out k (scP a) (by rw[List.getElem?_map,ha];rfl);unfold scP at q0 q1;dsimp only at q0 q1;have r0:=(HR.out.1.cell (p:=⟨b,off+k*2,none⟩) (HS.out b hSb)).trans q0;have r1:=(HR.out.1.cell (p:=⟨b,off+k*2+1,none⟩) (HS.out b hSb)).trans q1;have hza:=HZ.out a (List.mem_of_getElem? ha);have hbw:b<wr.heap.size:=Nat.lt_of_lt_of_le (HS.out b hSb) HR.out.1.size;have cn:=HC.out.2 a.name hza.1;have cv:=fun W=>may_any a.text W (by omega)
   obtain⟨q,hq⟩:∃q,gk=q+1:=⟨gk-1,by omega⟩;have hat:bkCheck l=(preOk l k a.name&&(pathB a.name.data.toList&&mayB a.text)&&bkFrom l q (k+1)):=by
    rw[HR.out.2,hq]
    show (bkAt l k&&bkFrom l q (k+1))=_
    unfold bkAt;rw[ha]
   obtain⟨an,han⟩:∃an,a.name=an:=⟨_,rfl⟩;obtain⟨tx,htx⟩:∃tx,a.text=tx:=⟨_,rfl⟩;rw[han] at r0 cn hat;rw[htx] at r1 cv hat;obtain⟨bn,hbn⟩:∃bn,pathB an.data.toList=bn:=⟨_,rfl⟩;obtain⟨bv,hbv⟩:∃bv,mayB tx=bv:=⟨_,rfl⟩;rw[hbn] at cn hat;rw[hbv] at cv hat;have hBw:=HR.out.1.alloc HR.out.1.size (.cells #[.string an,.string tx] 43);have hX:=Holds.new wr 43 #[.string an,.string tx];have HBW:=Lib.hid hBw;have HX:=Lib.hid hX;have HCC:=hidH2 cn cv;have HQ:=Lib.hid hq;clear q0 q1 ha hSb han htx hbn hbv hza cn cv hBw hX hq;cases k with
   | zero =>
    rw[show preOk l 0 an=true from rfl] at hat;rw[Nat.zero_mul,Nat.add_zero] at r0 r1;rw[show ((0:Nat):Int)=0 from rfl]
    go_wp2_with fail
    refine wp_region_held_drew (S:=(fun w'=>True)) (by kernel_rfl) ?_ (fun hHeld0=>?_)
    ·(try dsimp only)
     all_goals exact trivial
    refine tkH 0 22 ?_;refine tkH 1 23 ?_;refine tkH 2 24 ?_;refine wpAnyH_take (i:=3) (oi:=⟨some 25,_,_,_,_,_⟩) (v:=undef) rfl (by kernel_rfl) (by kernel_rfl) (by kernel_rfl) (fun _ _ _ h=>h) (Or.inr ⟨by kernel_rfl,rfl⟩) (by assumption) ?_
    (try go_frame)
    refine wpAnyH_take (i:=4) (oi:=⟨some 26,_,_,_,_,_⟩) (v:=undef) rfl (by kernel_rfl) (by kernel_rfl) (by kernel_rfl) (fun _ _ _ h=>h) (Or.inr ⟨by kernel_rfl,rfl⟩) (by assumption) ?_
    (try go_frame)
    refine wpAnyH_take (i:=5) (oi:=⟨some 27,_,_,_,_,_⟩) (v:=undef) rfl (by kernel_rfl) (by kernel_rfl) (by kernel_rfl) (fun _ _ _ h=>h) (Or.inr ⟨by kernel_rfl,rfl⟩) (by assumption) ?_
    (try go_frame)
    refine wpAnyH_take (i:=6) (oi:=⟨some 28,_,_,_,_,_⟩) (v:=undef) rfl (by kernel_rfl) (by kernel_rfl) (by kernel_rfl) (fun _ _ _ h=>h) (Or.inr ⟨by kernel_rfl,rfl⟩) (by assumption) ?_
    (try go_frame)
    refine wpAnyH_take (i:=7) (oi:=⟨some 29,_,_,_,_,_⟩) (v:=undef) rfl (by kernel_rfl) (by kernel_rfl) (by kernel_rfl) (fun _ _ _ h=>h) (Or.inr ⟨by kernel_rfl,rfl⟩) (by assumption) ?_
    (try go_frame)
    refine wpAnyH_take (i:=8) (oi:=⟨some 30,_,_,_,_,_⟩) (v:=undef) rfl (by kernel_rfl) (by kernel_rfl) (by kernel_rfl) (fun _ _ _ h=>h) (Or.inr ⟨by kernel_rfl,rfl⟩) (by assumption) ?_
    (try go_frame)
    refine wpAnyH_take (i:=9) (oi:=⟨some 31,_,_,_,_,_⟩) (v:=undef) rfl (by kernel_rfl) (by kernel_rfl) (by kernel_rfl) (fun _ _ _ h=>h) (Or.inr ⟨by kernel_rfl,rfl⟩) (by assumption) ?_
    (try go_frame)
    refine wpAnyH_take (i:=10) (oi:=⟨some 32,_,_,_,_,_⟩) (v:=undef) rfl (by kernel_rfl) (by kernel_rfl) (by kernel_rfl) (fun _ _ _ h=>h) (Or.inr ⟨by kernel_rfl,rfl⟩) (by assumption) ?_
    (try go_frame)
    refine wpAnyH_take (i:=11) (oi:=⟨some 33,_,_,_,_,_⟩) (v:=undef) rfl (by kernel_rfl) (by kernel_rfl) (by kernel_rfl) (fun _ _ _ h=>h) (Or.inr ⟨by kernel_rfl,rfl⟩) (by assumption) ?_
    (try go_frame)
    refine tkH 12 34 ?_;refine wpAnyH_done (by kernel_rfl) ?_ _;have HBD:=Lib.hid (show Below w.heap.size w ((wr.alloc (.cells #[.string an,.string tx] 43)).drewN 1) from Below.drewA HBW.out 1);have HXD:=Lib.hid (show Holds ((wr.alloc (.cells #[.string an,.string tx] 43)).drewN 1) wr.heap.size 43 #[.string an,.string tx] from HX.out);cases bn with
    | false =>
     have HT:Hid (bkCheck l=false):=Lib.hid (hat.trans (by simp));clear hat
     go_wp2_with (first
      | (go_at_call 29;refine (HCC.out.1 _ HBD.out).mono ?_;rintro e w2 ⟨rfl,hb2⟩)
      | (go_at_call 47;refine (HCC.out.2 _).mono ?_;rintro e w2 ⟨rfl,rfl⟩))
     go_ret
     exact⟨ret_bool (HT.out:bkCheck l=false).symm,HBD.out.trans (hb2.mono HBD.out.size)⟩
    | true =>
     cases bv with
     | false =>
      have HT:Hid (bkCheck l=false):=Lib.hid (hat.trans (by simp));clear hat
      go_wp2_with (go_at_call 29;refine (HCC.out.1 _ HBD.out).mono ?_;rintro e w2 ⟨rfl,hb2⟩;have HX2:=HXD.out.below hb2 HXD.out.lt;have x0:=HX2.cell 0;have x1:=HX2.cell 1;simp at x0 x1)
      go_wp2_with (go_at_call 47;refine (HCC.out.2 _).mono ?_;rintro e w2 ⟨rfl,rfl⟩)
      go_ret
      exact⟨ret_bool (HT.out:bkCheck l=false).symm,HBD.out.trans (hb2.mono HBD.out.size)⟩
     | true =>
      have HT:=Lib.hid (hat.trans (Bool.true_and _));clear hat
      go_wp2_with (go_at_call 29;refine (HCC.out.1 _ HBD.out).mono ?_;rintro e w2 ⟨rfl,hb2⟩;have HX2:=HXD.out.below hb2 HXD.out.lt;have x0:=HX2.cell 0;have x1:=HX2.cell 1;simp at x0 x1)
      go_wp2_with (go_at_call 47;refine (HCC.out.2 _).mono ?_;rintro e w2 ⟨rfl,rfl⟩)
      go_roundg (gk-1)
      case measure=>omega
      case rel=>first
       | exact⟨1,by omega,by go_num,Lib.hid ⟨HBD.out.trans (hb2.mono HBD.out.size),by rw[HQ.out];exact HT.out⟩⟩
       | exact⟨j+2,by omega,by go_num,Lib.hid ⟨HBD.out.trans (hb2.mono HBD.out.size),by rw[HQ.out];exact HT.out⟩⟩
   | succ j =>
    obtain⟨p,hp⟩:∃p,l[j]? = some p:=⟨_,List.getElem?_eq_getElem (by rw[HN.out];omega)⟩;obtain⟨b',off',hbb,hSb',p0,p1⟩:=H1.out j (scP p) (by rw[List.getElem?_map,hp];rfl);injection hbb with hbb
    injection hbb with hb1 hb2'
    subst hb1 hb2';unfold scP at p0 p1;dsimp only at p0 p1;have s0:=(HR.out.1.cell (p:=⟨b,off+j*2,none⟩) (HS.out b hSb')).trans p0;obtain⟨pn,hpn⟩:∃pn,p.name=pn:=⟨_,rfl⟩;rw[hpn] at s0;rw[show preOk l (j+1) an=decide (p.name.data.toList<an.data.toList) by show (match l[j]? with|none=>true|some p=>decide (p.name.data.toList<an.data.toList))=_;rw[hp],hpn] at hat;clear p0 p1 hp hpn hSb';have e1:IntKind.i64.wrap ((j:Int)+1-1)=(j:Int):=by rw[show (j:Int)+1-1=j by omega];exact IntWalk.i64_in _ (by omega)
    have e2:((j:Int)+1-1)=(j:Int):=by omega
    have e3:IntKind.i64.wrap (j:Int)=(j:Int):=IntWalk.i64_in _ (by omega);have e4:¬((nl:Int)≤(j:Int)):=by omega
    have e5:(0:Int)<(j:Int)+1:=by omega
    have e6:(j:Int)<(nl:Int):=by omega
    have hlt2:=ltL pn an;obtain⟨bl,hbl⟩:∃bl,decide (pn.data.toList<an.data.toList)=bl:=⟨_,rfl⟩;rw[hbl] at hlt2 hat;clear hbl;cases bl with
    | false =>
     have HT:Hid (bkCheck l=false):=Lib.hid (hat.trans (by simp));clear hat
     go_wp2_with fail
     go_quiet (fail)
     go_wp2
     go_ret
     exact⟨ret_bool (HT.out:bkCheck l=false).symm,Below.drewA HBW.out _⟩
    | true =>
     go_wp2_with fail
     go_quiet (fail)
     rw[Bool.true_and] at hat;have hat:bkCheck l=(true&&(bn&&bv)&&bkFrom l q (j+1+1)):=hat;have HBD:=Lib.hid (show Below w.heap.size w ((wr.alloc (.cells #[.string an,.string tx] 43)).drewN nq) from Below.drewA HBW.out nq);have HXD:=Lib.hid (show Holds ((wr.alloc (.cells #[.string an,.string tx] 43)).drewN nq) wr.heap.size 43 #[.string an,.string tx] from HX.out);cases bn with
     | false =>
      have HT:Hid (bkCheck l=false):=Lib.hid (hat.trans (by simp));clear hat
      go_wp2_with (first
       | (go_at_call 29;refine (HCC.out.1 _ HBD.out).mono ?_;rintro e w2 ⟨rfl,hb2⟩)
       | (go_at_call 47;refine (HCC.out.2 _).mono ?_;rintro e w2 ⟨rfl,rfl⟩))
      go_ret
      exact⟨ret_bool (HT.out:bkCheck l=false).symm,HBD.out.trans (hb2.mono HBD.out.size)⟩
     | true =>
      cases bv with
      | false =>
       have HT:Hid (bkCheck l=false):=Lib.hid (hat.trans (by simp));clear hat
       go_wp2_with (go_at_call 29;refine (HCC.out.1 _ HBD.out).mono ?_;rintro e w2 ⟨rfl,hb2⟩;have HX2:=HXD.out.below hb2 HXD.out.lt;have x0:=HX2.cell 0;have x1:=HX2.cell 1;simp at x0 x1)
       go_wp2_with (go_at_call 47;refine (HCC.out.2 _).mono ?_;rintro e w2 ⟨rfl,rfl⟩)
       go_ret
       exact⟨ret_bool (HT.out:bkCheck l=false).symm,HBD.out.trans (hb2.mono HBD.out.size)⟩
      | true =>
       have HT:=Lib.hid (hat.trans (Bool.true_and _));clear hat
       go_wp2_with (go_at_call 29;refine (HCC.out.1 _ HBD.out).mono ?_;rintro e w2 ⟨rfl,hb2⟩;have HX2:=HXD.out.below hb2 HXD.out.lt;have x0:=HX2.cell 0;have x1:=HX2.cell 1;simp at x0 x1)
       go_wp2_with (go_at_call 47;refine (HCC.out.2 _).mono ?_;rintro e w2 ⟨rfl,rfl⟩)
       go_roundg (gk-1)
       case measure=>omega
       case rel=>first
        | exact⟨1,by omega,by go_num,Lib.hid ⟨HBD.out.trans (hb2.mono HBD.out.size),by rw[HQ.out];exact HT.out⟩⟩
        | exact⟨j+2,by omega,by go_num,Lib.hid ⟨HBD.out.trans (hb2.mono HBD.out.size),by rw[HQ.out];exact HT.out⟩⟩
  ·obtain rfl:k=nl:=by omega
   have HT:=Lib.hid (show bkCheck l=true by rw[HR.out.2,show gk=0 by omega];rfl)
   go_wp2_with (go_at_call 32;refine (HC.out.1 _ HR.out.1).mono ?_;rintro e w2 ⟨rfl,hb2⟩)
   go_ret
   exact⟨ret_bool HT.out.symm,HR.out.1.trans (hb2.mono HR.out.1.size)⟩
structure Cv where
 name:ByteArray
 b:Value
 d:Value
 f:Value
 a:Value
 u:Value
def cvCells (c:Cv):List Value:=[.string c.name,c.b,c.d,c.f,c.a,c.u]
def rowC (l:List Cv):List Value:=l.flatMap cvCells
theorem rowC_snoc (l:List Cv) (c:Cv):rowC (l++[c])=rowC l++cvCells c:=by unfold rowC;simp
def allD (src:List Sc) (attrs:List At) (ns:List ByteArray):List Dg:=ns.flatMap fun n=>(chapM src attrs n).diags
theorem allD_snoc (src:List Sc) (attrs:List At) (ns:List ByteArray) (n:ByteArray):allD src attrs (ns++[n])=allD src attrs ns++(chapM src attrs n).diags:=by unfold allD;simp
theorem chap_name (src:List Sc) (attrs:List At) (n:ByteArray):(chapM src attrs n).name=n:=by unfold chapM chapR;rfl
theorem chA_info:(Tryz.prog.info? 32).map (fun i=>(i.zero,i.size,i.bytes))=some (some (.agg #[.string ⟨#[]⟩,.slice none 0 0,.slice none 0 0,.slice none 0 0,.slice none 0 0,.slice none 0 0]),6,136):=by kernel_rfl
theorem chs_under:Tryz.prog.underlying 39=some (.slice 32):=by kernel_rfl
theorem own_unlike {w:World}{b1 b2 s1 s2 n1 n2:Nat}{e1 e2:TypeId}{v1 v2:Value}{x1 x2:List Value} (h1:w.ownsRow b1 e1 s1 v1 n1 x1) (h2:w.ownsRow b2 e2 s2 v2 n2 x2) (he:e1≠e2):∀k,v1.ownBlock=some k→v2.ownBlock≠some k:=fun k e f=>by
 obtain⟨_,c1,q1⟩:=own_obj h1 e;obtain⟨_,c2,q2⟩:=own_obj h2 f;rw[q1] at q2;injection q2 with q2
 injection q2 with _ q2 _
 exact he q2
structure RdAt (w:World) (src:List Sc) (attrs:List At) (ns:List ByteArray) (ds0:List Dg) (nv:Value) (j n7:Nat) (cv dv:Value) (cs:List Cv) (W:World):Prop where
 below:Below w.heap.size w W
 nms:cs.map Cv.name=ns.take j
 dlen:∀c∈cs,∃A k,c.d=.slice A (chapM src attrs c.name).diags.length k
 rc:W.ownsRow w.heap.size 32 6 cv j (rowC cs)
 rd:W.ownsRow w.heap.size tDg 4 dv n7 (rowD (ds0++allD src attrs (ns.take j)))
 rn:W.ownsRow w.heap.size 9 1 nv ns.length (rowTx ns)
 len:(ds0++allD src attrs (ns.take j)).length=n7
section
variable {w W W2 W3 w5 w6:World} {src:List Sc} {attrs:List At} {ns:List ByteArray} {ds0:List Dg} {nv:Value} {j n7:Nat} {cv dv cv' dv':Value} {cs:List Cv}
theorem RdAt.turn (h:RdAt w src attrs ns ds0 nv j n7 cv dv cs W) (hb:Below W.heap.size W W2):RdAt w src attrs ns ds0 nv j n7 cv dv cs W2 :=
 ⟨h.below.trans (hb.mono h.below.size),h.nms,h.dlen,(Chg.below hb (fun _=>False)).owns h.rc (fun _ _ e=>e),(Chg.below hb (fun _=>False)).owns h.rd (fun _ _ e=>e),(Chg.below hb (fun _=>False)).owns h.rn (fun _ _ e=>e),h.len⟩
theorem RdAt.next (h:RdAt w src attrs ns ds0 nv j n7 cv dv cs W){c:Cv}{n:ByteArray} (hn:ns[j]? = some n) (hcn:c.name=n) (hcd:∃A k,c.d=.slice A (chapM src attrs n).diags.length k)
  (hc5:Chg W w5 (fun k=>cv.ownBlock=some k)) (ho5:w5.ownsRow w.heap.size 32 6 cv' (j+1) (rowC cs++cvCells c)) (hc6:Chg w5 w6 (fun k=>dv.ownBlock=some k)) {n8:Nat} (hn8:n7+(chapM src attrs n).diags.length=n8)
  (ho6:w6.ownsRow w.heap.size tDg 4 dv' n8 (rowD (ds0++allD src attrs (ns.take j)++(chapM src attrs n).diags))):RdAt w src attrs ns ds0 nv (j+1) n8 cv' dv' (cs++[c]) w6:=by
 have ht:ns.take (j+1)=ns.take j++[n]:=by rw[List.take_add_one,hn];rfl
 have hd5:=hc5.owns h.rd (fun k e f=>own_unlike h.rd h.rc (by decide) k e f);have hn5:=hc5.owns h.rn (fun k e f=>own_unlike h.rn h.rc (by decide) k e f);refine⟨(h.below.trans (hc5.toBelow h.below.size (fun k e=>(own_obj h.rc e).1))).trans (hc6.toBelow (Nat.le_trans h.below.size hc5.size) (fun k e=>(own_obj h.rd e).1)),?_,fun c' hc'=>?_,?_,?_,hc6.owns hn5 (fun k e f=>own_unlike hn5 hd5 (by decide) k e f),?_⟩
 ·rw[List.map_append,h.nms,ht,List.map_singleton,hcn]
 ·rcases List.mem_append.1 hc' with h1|h1
  ·exact h.dlen c' h1
  ·rw[List.mem_singleton.1 h1,hcn];exact hcd
 ·rw[rowC_snoc];exact hc6.owns ho5 (fun k e f=>own_unlike ho5 hd5 (by decide) k e f)
 ·rw[ht,allD_snoc,←List.append_assoc];exact ho6
 ·rw[ht,allD_snoc,←List.append_assoc,List.length_append,h.len,hn8]
end
theorem chap_few {src:List Sc}{attrs:List At} (h:Fine src attrs) (name:ByteArray):(chapM src attrs name).diags.length≤300100000:=by
 have hz:=Fine.src h;have hw:=Fine.wt h name;have hl:=readS_lm hz.1 attrs name;unfold chapM;generalize readS src attrs name=r at *;have hb:=blocks_count r.lines;have hd:=diags_count r.lines;unfold chapR;dsimp only;have h1:(firstD name (blocksOf r.lines)).length≤1:=by rw[firstD_eq];split<;>simp
 have h2:(againD (blocksOf r.lines).tail).length≤(blocksOf r.lines).length:=by
  unfold againD;rw[List.length_map];exact Nat.le_trans (List.length_filter_le _ _) (by rw[List.length_tail];omega)
 simp only[List.length_append];omega
theorem names_few {src:List Sc}{attrs:List At} (h:Fine src attrs):(orderM src).1.length+(orderM src).2.length≤8002:=by
 unfold orderM;split
 ·simp
 ·rename_i t ht;obtain⟨s,hs,-,rfl⟩:=findS_mem ht;have h1:s.text.size≤8000:=by
   have h2:s.name.size+s.text.size+1≤twoZ (src.map scP):=twoZ_mem (List.mem_map.2 ⟨s,hs,rfl⟩:scP s∈src.map scP);have h3:=h.1;omega
  have h4:=raw_len (linesT s.text);have h5:=linesT_raw s.text;have h6:=saidN_length (linesT s.text) (linesT s.text).length;have h7:=ord_length src (saidN (linesT s.text) (linesT s.text).length)
  show ((ordO src _).names.map _).length+(ordO src _).diags.length≤_
  rw[List.length_map];omega
theorem own_at {W:World}{b sz n c i:Nat}{e:TypeId}{A:Option Addr}{xs:List Value}{u:Value} (h:W.ownsRow b e sz (.slice A n c) n xs) (hu:xs[i]? = some u):∃g,A=some ⟨g,0,none⟩∧g<W.heap.size∧W.cell? ⟨g,i,none⟩=some u:=by
 obtain⟨ad,ha,hc⟩:=own_cells h i u hu
 rcases h.2 with ⟨h1,h2⟩|⟨g,cap,cur,h1,_,h3,_⟩
 ·injection h1 with h1
  rw[h1] at ha;cases ha
 ·injection h1 with h1
  rw[h1] at ha;obtain rfl:=Option.some.inj ha;refine⟨g,h1,(Array.getElem?_eq_some_iff.1 h3).1,?_⟩;rw[Addr.add_lit] at hc;simpa using hc
theorem bread_any {w:World}{S T:Nat→Prop}{sv av:Value}{src:List Sc}{attrs:List At} (hsc:ScS w S sv src) (hat:AtS w T av attrs) (hS:∀k,S k→k<w.heap.size) (hT:∀k,T k→k<w.heap.size) (hfi:Fine src attrs){m:Int} (hg:Glob m w) (h3:3≤w.heap.size) :
  Calls Tryz.prog 12 #[sv,av] w fun e w'=>∃nv cv fv cs n7,e=.returned (.tuple #[cv,fv])∧RdAt w src attrs (orderM src).1 (orderM src).2 nv (orderM src).1.length n7 cv fv cs w':=by
 have hz:=Fine.src hfi;have hfw:=names_few hfi;have hgo:=good_order src;have hO:=order_any hsc hS (Nat.le_trans hz.2.2.1 (by decide)) hz.1 hg h3;obtain⟨ns,hns⟩:∃ns,(orderM src).1=ns:=⟨_,rfl⟩;obtain⟨ds0,hds⟩:∃ds,(orderM src).2=ds:=⟨_,rfl⟩;rw[hns,hds] at hO hfw;rw[hns] at hgo;rw[hns,hds];have hall:∀W,Below w.heap.size w W→ScS W S sv src∧AtS W T av attrs∧(∀k,S k→k<W.heap.size)∧(∀k,T k→k<W.heap.size)∧Glob m W∧3≤W.heap.size:=fun W hb=>⟨TwoS.below hsc hb,TwoS.below hat hb,fun k hk=>Nat.lt_of_lt_of_le (hS k hk) hb.size,fun k hk=>Nat.lt_of_lt_of_le (hT k hk) hb.size,hg.chg (Chg.below hb (fun _=>False)) (fun _ h=>h.elim),Nat.le_trans h3 hb.size⟩
 have hC:∀n∈ns,n.size≤8000∧∀W,Below w.heap.size w W→Calls Tryz.prog 7 #[sv,av,.string n] W fun e w'=>∃cv,e=.returned cv∧ChAt w' w'.heap.size cv (chapM src attrs n)∧Below W.heap.size W w'∧ChOwn w' W.heap.size cv (chapM src attrs n):=fun n hn=>by
  obtain⟨t,ht⟩:=(hgo.1 n hn).1;obtain⟨s,hs,rfl,-⟩:=findS_mem ht;have h1:s.name.size≤8000:=by
   have h2:s.name.size+s.text.size+1≤twoZ (src.map scP):=twoZ_mem (List.mem_map.2 ⟨s,hs,rfl⟩:scP s∈src.map scP);have h3:=hfi.1;omega
  exact⟨h1,fun W hW=>chapter_own (hall W hW).1 (hall W hW).2.1 (hall W hW).2.2.1 (hall W hW).2.2.2.1 (Nat.le_trans hz.2.2.1 (by decide)) (Nat.le_trans hz.2.2.2 (by decide)) hz.1 hz.2.1 (hall W hW).2.2.2.2.1 (hall W hW).2.2.2.2.2 s.name (by omega) (Fine.wt hfi s.name)⟩
 have hcf:=fun n=>chap_few hfi n
 obtain⟨As,cs,hsv,-⟩:=id hsc;obtain⟨Aa,ca,hav,-⟩:=id hat;generalize (src.map scP).length=sn at *;generalize (attrs.map atP).length=an at *;subst hsv hav;have HH:=hidH3 hO hC hcf;clear hO hC hcf hall hsc hat hS hT hg h3 hz hgo;obtain⟨nk,hnk⟩:∃nk,ns.length=nk:=⟨_,rfl⟩;obtain⟨nd,hnd⟩:∃nd,ds0.length=nd:=⟨_,rfl⟩;rw[hnk,hnd] at hfw;rw[hnk];have HN:=hidH2 hnk hnd
 go_enter Tryz.func12,Tryz.ntmps12
 go_wp2_with fail
 refine HH.out.1.mono ?_;rintro e w1 ⟨nv,dv,rfl,hr1,hr2,hb1⟩;obtain⟨An,cn,hnv⟩:=own_form hr1;obtain⟨Ad,cd,hdv⟩:=own_form hr2;rw[hnk] at hnv;rw[hnd] at hdv;subst hnv hdv;clear hnk hnd;have hR0:RdAt w src attrs ns ds0 (.slice An nk cn) 0 nd (.slice none 0 0) (.slice Ad nd cd) [] w1:=⟨hb1,rfl,(fun c hc=>by cases hc),own_nil _ _ _ _,by rw[show ds0++allD src attrs (ns.take 0)=ds0 by simp[allD]];have h:=hr2;rw[HN.out.2] at h;exact h,hr1,by simp[allD,HN.out.2]⟩;have HR0:=Lib.hid hR0;obtain⟨i0,hi0,hz0,hz1,hz2⟩:=info_parts diagA_info;obtain⟨i1,hi1,hy0,hy1,hy2⟩:=info_parts chA_info;have HI0:=hidH4 hi0 hz0 hz1 hz2;have HI1:=hidH4 hi1 hy0 hy1 hy2;clear hi0 hz0 hz1 hz2 hi1 hy0 hy1 hy2 hr1 hr2 hb1 hR0
 go_wp2_with fail
 go_loopg [7,8,19] nk (fun q dv cv i wr=>∃(j n7:Nat) (A7 A8:Option Addr) (c7 c8:Nat),j+q=nk∧n7≤nd+j*300100000∧i=.int .i64 j∧dv=.slice A7 n7 c7∧cv=.slice A8 j c8∧Hid (∃cs,RdAt w src attrs ns ds0 (.slice An nk cn) j n7 cv dv cs wr))
 case atStart=>exact⟨0,nd,Ad,none,cd,0,by omega,by omega,rfl,rfl,rfl,Lib.hid ⟨[],HR0.out⟩⟩
 case round =>
  obtain⟨j,n7,A7,A8,c7,c8,hj,hn7,rfl,rfl,rfl,HR⟩:=hrel
  by_cases hlt:j<nk
  ·obtain⟨n,hn⟩:∃n,ns[j]? = some n:=⟨_,List.getElem?_eq_getElem (by rw[HN.out.1];exact hlt)⟩;obtain⟨cs0,hR⟩:=HR.out;obtain⟨g,rfl,hgl,hcl⟩:=own_at (HN.out.1 ▸ hR.rn:wr.ownsRow w.heap.size 9 1 (.slice An nk cn) nk (rowTx ns)) (i:=j) (u:=.string n) (by simp[rowTx,hn]);have hCn:=(HH.out.2.1 n (List.mem_of_getElem? hn)).2 wr hR.below;have hcw:=HH.out.2.2 n;have HJ:=hidH2 hn hR;have HCn:=Lib.hid hCn;clear hn hR hCn
   go_wp2_with fail
   refine HCn.out.mono ?_;rintro e w2 ⟨cvv,rfl,-,hb2,Ab,nb,cb,Ad2,nd2,cd2,Af,nf,cf,Aa2,na2,ca2,Au,nu,cu,hcv,hrow2⟩;rw[chap_name] at hcv;obtain⟨k2,hk2⟩:∃k,(chapM src attrs n).diags.length=k:=⟨_,rfl⟩;rw[hk2] at hrow2 hcw;have hf2:nd2=k2:=by
    obtain⟨_,_,hf2⟩:=own_form hrow2;injection hf2
   subst hf2 hcv;have hR2:=HJ.out.2.turn hb2;have hX:=Holds.new w2 32 #[.string n,.slice Ab nb cb,.slice Ad2 nd2 cd2,.slice Af nf cf,.slice Aa2 na2 ca2,.slice Au nu cu];obtain⟨b,hb⟩:∃b,w2.heap.size=b:=⟨_,rfl⟩;have HB2:=hidH6 hb2 hR2 hrow2 hk2 hX hb;clear hb2 hR2 hrow2 hk2 hX hb;have hbw:=HJ.out.2.below.size;have hbw2:w.heap.size≤w2.heap.size:=Nat.le_trans hbw HB2.out.1.size
   go_upto_region 8 with (at_builtin;refine wpList_append_lies _ rfl _ _ 39 rfl w.heap.size 32 i1 _ 6 136 chs_under HI1.out.1 HI1.out.2.1 HI1.out.2.2.1 HI1.out.2.2.2 rfl (by omega) (.slice A8 j c8) j (rowC cs0) (by rfl) ((HB2.out.2.1.rc.alloc _).alloc _) ⟨w2.heap.size+1,0,none⟩ 1 1 (cvCells ⟨n,.slice Ab nb cb,.slice Ad2 nd2 cd2,.slice Af nf cf,.slice Aa2 na2 ca2,.slice Au nu cu⟩) rfl rfl (World.news_of_block (cs:=#[.string n,.slice Ab nb cb,.slice Ad2 nd2 cd2,.slice Af nf cf,.slice Aa2 na2 ca2,.slice Au nu cu]) (t:=32) (fr:=(0,0)) (by have h:=heap_alloc_new (w2.alloc (.cells #[.string n,.slice Ab nb cb,.slice Ad2 nd2 cd2,.slice Af nf cf,.slice Aa2 na2 ca2,.slice Au nu cu] 32)) (.cells #[.string n,.slice Ab nb cb,.slice Ad2 nd2 cd2,.slice Af nf cf,.slice Aa2 na2 ca2,.slice Au nu cu] 32);rw[World.size_alloc] at h;exact h)) (by simp[cvCells,Value.oneCell']) (by omega) (by unfold maxLen;omega) (by omega) (by simp;omega) (w2.heap.size+2) (by simp) ?_;intro g5 cap5 w5 ho5 hg5 hat5 hl5;have hC5:Chg w2 w5 (fun k=>(Value.slice A8 j c8).ownBlock=some k):=(((Chg.refl w2 _).alloc _).alloc _).trans (Chg.grown hg5) (fun _ _ h=>h.symm);have hX5:=(Chg.grown hg5).holds (fun e=>by have h1:=(own_lt HB2.out.2.1.rc e.symm).2;omega) (HB2.out.2.2.2.2.1.alloc _);have k5:=hX5.cell 2;simp at k5;have H5:=hidH3 hC5 ho5 hX5;clear hC5 ho5 hX5 hg5 hat5 hl5)
   have hrd5:=H5.out.1.owns HB2.out.2.1.rd (fun k e f=>own_unlike HB2.out.2.1.rd HB2.out.2.1.rc (by decide) k e f);have hro5:=H5.out.1.owns HB2.out.2.2.1 (fun k e f=>own_unlike HB2.out.2.2.1 HB2.out.2.1.rc (by decide) k e f);have hnew:=row_news hro5 (fun h _=>List.length_eq_zero_iff.1 (by rw[rowD_length,HB2.out.2.2.2.1,h]));have hs5:=H5.out.1.size;have HR5:=hidH2 hrd5 hnew;clear hrd5 hro5 hnew
   go_wp2_with (at_builtin;refine wpList_append_all (by rfl) _ _ _ (by rfl) w.heap.size 51 i0 _ 4 48 dgs_under HI0.out.1 HI0.out.2.1 HI0.out.2.2.1 HI0.out.2.2.2 rfl (by omega) (.slice A7 n7 c7) n7 (rowD (ds0++allD src attrs (ns.take j))) (by rfl) HR5.out.1 Ad2 nd2 cd2 (rowD (chapM src attrs n).diags) (by rfl) (by rw[rowD_length,HB2.out.2.2.2.1]) HR5.out.2 (fun u hu=>rowD_one u hu) (n7+nd2) rfl (rowD (ds0++allD src attrs (ns.take j)++(chapM src attrs n).diags)) (rowD_append _ _).symm (by unfold maxLen;omega) (by omega) (by omega) ?_;intro A6' c6' w6 ho6 hg6 hat6;have hC6:Chg w5 w6 (fun k=>(Value.slice A7 n7 c7).ownBlock=some k):=(Chg.refl w5 _).trans (Chg.grown hg6) (fun _ _ h=>h.symm);have H6:=hidH2 hC6 ho6;clear hC6 ho6 hg6 hat6)
   go_roundg (gk-1)
   case measure=>omega
   case rel=>exact⟨j+1,n7+nd2,A6',some ⟨g5,0,none⟩,c6',cap5,by omega,by omega,by go_num,rfl,rfl,Lib.hid ⟨_,RdAt.next (c:=⟨n,.slice Ab nb cb,.slice Ad2 nd2 cd2,.slice Af nf cf,.slice Aa2 na2 ca2,.slice Au nu cu⟩) HB2.out.2.1 HJ.out.1 rfl ⟨Ad2,cd2,by rw[HB2.out.2.2.2.1]⟩ H5.out.1 H5.out.2.1 H6.out.1 (by rw[HB2.out.2.2.2.1]) H6.out.2⟩⟩
  ·obtain rfl:j=nk:=by omega
   go_wp2_with fail
   refine bodyPost_ret (results_tmp2 rfl _ _ _) rfl ?_;obtain⟨cs0,hR⟩:=HR.out;exact⟨_,_,_,cs0,n7,rfl,hR⟩
def exL:List Sc:=[⟨⟨#[97]⟩,⟨#[61,32,65,10]⟩⟩,⟨bookN,⟨#[32,97,10,35,32,110,111,10,98,10,97,10]⟩⟩]
theorem dgs_eq {l m:List Dg} (h:l.map (fun d=>(d.file,d.line,d.fault,d.text))=m.map (fun d=>(d.file,d.line,d.fault,d.text))):l=m :=
 (List.map_inj_right (fun x y e=>by cases x;cases y;simp_all)).1 h
theorem exL_names:(orderM exL).1=[⟨#[97]⟩]:=by decide +kernel
theorem exL_diags:(orderM exL).2=[⟨bookN,3,1,⟨#[98]⟩⟩,⟨bookN,4,11,⟨#[97]⟩⟩]:=dgs_eq (by decide +kernel)
theorem exN_names:(orderM []).1=[]:=by decide +kernel
theorem exN_diags:(orderM []).2=[⟨bookN,0,1,bookN⟩]:=dgs_eq (by decide +kernel)
theorem exL_check:bkCheck exL=true:=by decide +kernel
theorem exM_check:bkCheck (exL++[⟨⟨#[97]⟩,⟨#[61,32,65,10]⟩⟩])=false:=by decide +kernel
theorem srA_info:(Tryz.prog.info? 43).map (fun i=>(i.zero,i.size,i.bytes))=some (some (.agg #[.string ⟨#[]⟩,.string ⟨#[]⟩]),2,32):=by kernel_rfl
theorem srs_under:Tryz.prog.underlying 22=some (.slice 43):=by kernel_rfl
theorem blives_any {w:World}{m:Int} (hg:Glob m w) (h3:3≤w.heap.size) :
  Calls Tryz.prog 10 #[] w fun e w'=>e=.returned (.bool true)∧Below w.heap.size w w':=by
 have hB1:=(Below.refl w.heap.size w).alloc (Nat.le_refl _) (.cells #[.string ⟨#[97]⟩,.string ⟨#[61,32,65,10]⟩,.string ⟨#[98,111,111,107]⟩,.string ⟨#[32,97,10,35,32,110,111,10,98,10,97,10]⟩] 43);have hX1:=Holds.new w 43 #[.string ⟨#[97]⟩,.string ⟨#[61,32,65,10]⟩,.string ⟨#[98,111,111,107]⟩,.string ⟨#[32,97,10,35,32,110,111,10,98,10,97,10]⟩];obtain⟨p,hp⟩:∃p,w.heap.size=p:=⟨_,rfl⟩;obtain⟨W1,hW1⟩:∃W1,w.alloc (.cells #[.string ⟨#[97]⟩,.string ⟨#[61,32,65,10]⟩,.string ⟨#[98,111,111,107]⟩,.string ⟨#[32,97,10,35,32,110,111,10,98,10,97,10]⟩] 43)=W1:=⟨_,rfl⟩;rw[hW1] at hB1 hX1;rw[hp] at hX1;have hp1:p<W1.heap.size:=hX1.lt;have hsc:∀W,Below W1.heap.size W1 W→ScS W (fun b=>b=p) (.slice (some ⟨p,0,none⟩) 2 2) exL:=fun W hW=>by
  have h:=hX1.below hW hp1;have c0:=h.cell 0;have c1:=h.cell 1;have c2:=h.cell 2;have c3:=h.cell 3;simp at c0 c1 c2 c3;refine⟨_,2,rfl,Nat.le_refl _,fun j f hf=>?_⟩
  match j,hf with
  | 0,hf=>cases hf;exact⟨p,0,rfl,rfl,c0,c1⟩
  | 1,hf=>cases hf;exact⟨p,0,rfl,rfl,c2,c3⟩
  | j+2,hf=>simp[exL] at hf
 have hgl:∀W,Below W1.heap.size W1 W→Glob m W∧3≤W.heap.size∧Below w.heap.size w W∧(∀k,k=p→k<W.heap.size):=fun W hW=>by
  have h:=hB1.trans (hW.mono hB1.size);exact⟨hg.chg (Chg.below h (fun _=>False)) (fun _ h=>h.elim),Nat.le_trans h3 h.size,h,fun k hk=>by rw[hk];exact Nat.lt_of_lt_of_le hp1 hW.size⟩
 have hz1:∀s∈exL,s.text.size≤99999:=by decide +kernel
 have hz2:∀s∈exL,s.name.size≤100000∧s.text.size≤100000:=by decide +kernel
 have hz3:∀s∈exL++[⟨⟨#[97]⟩,⟨#[61,32,65,10]⟩⟩],s.name.size≤100000∧s.text.size≤100000:=by decide +kernel
 have hO1:=fun W (hW:Below W1.heap.size W1 W)=>order_any (hsc W hW) (hgl W hW).2.2.2 (by decide) hz1 (hgl W hW).1 (hgl W hW).2.1
 have hO2:=fun W (hW:Below W1.heap.size W1 W)=>order_any (S:=fun _=>False) (src:=[]) (TwoS.nil W _) (fun k h=>h.elim) (by decide) (fun s h=>by cases h) (hgl W hW).1 (hgl W hW).2.1
 have hK1:=fun W (hW:Below W1.heap.size W1 W)=>bcheck_any (hsc W hW) (hgl W hW).2.2.2 (by decide) hz2 (hgl W hW).1
 rw[exL_names,exL_diags] at hO1;rw[exN_names,exN_diags] at hO2;rw[exL_check] at hK1;have hrow:∀W,Below W1.heap.size W1 W→W.ownsRow 0 43 2 (.slice (some ⟨p,0,none⟩) 2 2) 2 [.string ⟨#[97]⟩,.string ⟨#[61,32,65,10]⟩,.string ⟨#[98,111,111,107]⟩,.string ⟨#[32,97,10,35,32,110,111,10,98,10,97,10]⟩]:=fun W hW=>own_shut (hX1.below hW hp1) rfl rfl (Nat.le_refl _) (by unfold maxLen;omega) (Nat.zero_le _)
 have hgw:=Lib.hid hg;have HH:=hidH9 hsc hgl hO1 hO2 hK1 hrow hX1 hp1 hz3;have HW:=hidH2 hW1 hp;clear hsc hgl hz1 hz2 hz3 hO1 hO2 hK1 hrow hg h3 hB1 hX1 hp1
 go_enter Tryz.func10,Tryz.ntmps10
 go_wp2_with fail
 (try rw[HW.out.1])
 (try rw[HW.out.2])
 (try rw[HW.out.1])
 clear hW1 hp;refine (HH.out.2.2.1 W1 (Below.refl _ _)).mono ?_;rintro e W2 ⟨nv,dv,rfl,hn,hd,hb2⟩;obtain⟨An,cn,hnv⟩:=own_form hn;obtain⟨Ad,cd,hdv⟩:=own_form hd;simp only[List.length_cons,List.length_nil,Nat.zero_add,Nat.reduceAdd] at hnv hdv hn hd;subst hnv hdv;have H2:=hidH3 hn hd hb2;clear hn hd hb2
 go_wp2_with fail
 refine (HH.out.2.2.2.1 W2 H2.out.2.2).mono ?_;rintro e W3 ⟨nv,dv,rfl,hn3,hd3,hb3⟩;obtain⟨An3,cn3,hnv⟩:=own_form hn3;obtain⟨Ad3,cd3,hdv⟩:=own_form hd3;simp only[List.length_cons,List.length_nil,Nat.zero_add,Nat.reduceAdd] at hnv hdv hn3 hd3;subst hnv hdv;have hb13:=H2.out.2.2.trans (hb3.mono H2.out.2.2.size);have hn:=(Chg.below hb3 (fun _=>False)).owns H2.out.1 (fun _ _ h=>h);have hd:=(Chg.below hb3 (fun _=>False)).owns H2.out.2.1 (fun _ _ h=>h);obtain⟨gn,rfl,-,n0⟩:=own_at hn (i:=0) (u:=.string ⟨#[97]⟩) rfl;obtain⟨gd,rfl,-,d0⟩:=own_at hd (i:=0) (u:=.string bookN) rfl;obtain⟨gd',e1,-,d1⟩:=own_at hd (i:=1) (u:=.int .i64 3) rfl;obtain⟨gd2,e2,-,d2⟩:=own_at hd (i:=2) (u:=.int .i64 1) rfl;obtain⟨gd3,e3,-,d3⟩:=own_at hd (i:=3) (u:=.string ⟨#[98]⟩) rfl;obtain⟨gd4,e4,-,d4⟩:=own_at hd (i:=4) (u:=.string bookN) rfl;obtain⟨gd5,e5,-,d5⟩:=own_at hd (i:=5) (u:=.int .i64 4) rfl;obtain⟨gd6,e6,-,d6⟩:=own_at hd (i:=6) (u:=.int .i64 11) rfl;obtain⟨gd7,e7,-,d7⟩:=own_at hd (i:=7) (u:=.string ⟨#[97]⟩) rfl;obtain⟨gf,rfl,-,f0⟩:=own_at hd3 (i:=0) (u:=.string bookN) rfl;obtain⟨gf',g1,-,f1⟩:=own_at hd3 (i:=1) (u:=.int .i64 0) rfl;obtain⟨gf2,g2,-,f2⟩:=own_at hd3 (i:=2) (u:=.int .i64 1) rfl;obtain⟨gf3,g3,-,f3⟩:=own_at hd3 (i:=3) (u:=.string bookN) rfl;simp only[Option.some.injEq,Addr.mk.injEq,and_true,true_and] at e1 e2 e3 e4 e5 e6 e7 g1 g2 g3;subst e1 e2 e3 e4 e5 e6 e7 g1 g2 g3;have H3:=hidH2 hb13 hn;clear hb3 hb13 hn hd hn3 hd3;unfold bookN at d0 d4 f0 f3;have hp3:=HH.out.2.2.2.2.2.2.1.below H3.out.1 HH.out.2.2.2.2.2.2.2.1
 have p0:=hp3.cell 0;have p1:=hp3.cell 1;simp at p0 p1;have HP:=Lib.hid hp3;clear hp3;obtain⟨i0,hi0,hz0,hz1,hz2⟩:=info_parts srA_info;have HI0:=hidH4 hi0 hz0 hz1 hz2;clear hi0 hz0 hz1 hz2
 go_wp2_with fail
 refine (HH.out.2.2.2.2.1 W3 H3.out.1).mono ?_;rintro e W4 ⟨rfl,hb4⟩;have hb14:=H3.out.1.trans (hb4.mono H3.out.1.size);have hp4:=HH.out.2.2.2.2.2.2.1.below hb14 HH.out.2.2.2.2.2.2.2.1;have p0:=hp4.cell 0;have p1:=hp4.cell 1;simp at p0 p1;have hX5:=heap_alloc_new W4 (.cells #[.string ⟨#[97]⟩,.string ⟨#[61,32,65,10]⟩] 43);have hlt:=World.block_lt_of_cell? _ _ p0;have H4:=hidH4 hb14 (HH.out.2.2.2.2.2.1 W4 hb14) hX5 hlt;clear hb14 hp4 hb4 hX5 hlt
 go_wp2_with (at_builtin;refine wpList_append_all (by rfl) _ _ _ (by rfl) 0 43 i0 _ 2 32 srs_under HI0.out.1 HI0.out.2.1 HI0.out.2.2.1 HI0.out.2.2.2 rfl (by omega) (.slice (some ⟨p,0,none⟩) 2 2) 2 [.string ⟨#[97]⟩,.string ⟨#[61,32,65,10]⟩,.string ⟨#[98,111,111,107]⟩,.string ⟨#[32,97,10,35,32,110,111,10,98,10,97,10]⟩] (by rfl) (H4.out.2.1.alloc _) (some ⟨W4.heap.size,0,none⟩) 1 1 [.string ⟨#[97]⟩,.string ⟨#[61,32,65,10]⟩] (by rfl) (by rfl) (fun j u hu=>⟨_,rfl,World.news_of_block (cs:=#[.string ⟨#[97]⟩,.string ⟨#[61,32,65,10]⟩]) (t:=43) (fr:=(0,0)) H4.out.2.2.1 j u hu⟩) (by simp[Value.oneCell']) 3 rfl [.string ⟨#[97]⟩,.string ⟨#[61,32,65,10]⟩,.string ⟨#[98,111,111,107]⟩,.string ⟨#[32,97,10,35,32,110,111,10,98,10,97,10]⟩,.string ⟨#[97]⟩,.string ⟨#[61,32,65,10]⟩] (by rfl) (by unfold maxLen;omega) (by omega) (by omega) ?_;intro A5 c5 w5 ho5 hg5 hat5;have H5:=hidH2 ho5 hg5;clear ho5 hg5 hat5)
 have hb45:Below w.heap.size w w5:=by
  have h1:=(HH.out.2.1 W4 H4.out.1).2.2.1;have hwp:=HW.out.2;refine h1.trans ((((Chg.refl W4 (fun k=>k=p)).alloc _).trans (Chg.grown H5.out.2) (fun k _ e=>?_)).toBelow h1.size (fun k e=>by have e:k=p:=e;omega));have e:=Option.some.inj e;exact e
 have hsc5:ScS w5 (· < w5.heap.size) (.slice A5 3 c5) (exL++[⟨⟨#[97]⟩,⟨#[61,32,65,10]⟩⟩]):=by
  refine⟨A5,c5,rfl,?_,fun j f hf=>?_⟩
  ·rcases H5.out.1.2 with ⟨_,h0⟩|⟨g,cap,cur,h1,_,_,h2,_⟩
   ·cases h0
   ·injection h1 with _ _ h1
    rw[h1];exact h2
  ·have hp:∀(i:Nat) (u v:ByteArray),[Value.string ⟨#[97]⟩,.string ⟨#[61,32,65,10]⟩,.string ⟨#[98,111,111,107]⟩,.string ⟨#[32,97,10,35,32,110,111,10,98,10,97,10]⟩,.string ⟨#[97]⟩,.string ⟨#[61,32,65,10]⟩][i]? = some (.string u)→[Value.string ⟨#[97]⟩,.string ⟨#[61,32,65,10]⟩,.string ⟨#[98,111,111,107]⟩,.string ⟨#[32,97,10,35,32,110,111,10,98,10,97,10]⟩,.string ⟨#[97]⟩,.string ⟨#[61,32,65,10]⟩][i+1]? = some (.string v)→∃b off,A5=some ⟨b,off,none⟩∧b<w5.heap.size∧w5.cell? ⟨b,off+i,none⟩=some (.string u)∧w5.cell? ⟨b,off+i+1,none⟩=some (.string v):=fun i u v hu hv=>by
    obtain⟨g,hA,hl,h0⟩:=own_at H5.out.1 hu;obtain⟨g',hA',-,h1⟩:=own_at H5.out.1 hv;rw[hA] at hA';injection hA' with hA'
    injection hA' with hA' _ _
    subst hA';exact⟨g,0,hA,hl,by rw[Nat.zero_add];exact h0,by rw[Nat.zero_add];exact h1⟩
   match j,hf with
   | 0,hf=>cases hf;exact hp 0 _ _ rfl rfl
   | 1,hf=>cases hf;exact hp 2 _ _ rfl rfl
   | 2,hf=>cases hf;exact hp 4 _ _ rfl rfl
   | j+3,hf=>simp[exL] at hf
 have hC5:=bcheck_any hsc5 (fun k h=>h) (by decide) HH.out.2.2.2.2.2.2.2.2 ((HH.out.2.1 W1 (Below.refl _ _)).1 |> fun _=>hgw.out.chg (Chg.below hb45 (fun _=>False)) (fun _ h=>h.elim));rw[exM_check] at hC5;have HC5:=hidH2 hC5 hb45;clear hC5 hb45 hsc5
 go_wp2_with fail
 refine HC5.out.1.mono ?_;rintro e W6 ⟨rfl,hb6⟩
 go_wp2_with fail
 go_ret
 exact⟨rfl,HC5.out.2.trans (hb6.mono HC5.out.2.size)⟩
theorem any_step {src:List Sc}{k:Nat}{s:Sc}{n:ByteArray} (h:src[k]? = some s):(src.take (k+1)).any (fun s=>decide (s.name=n))=((src.take k).any (fun s=>decide (s.name=n)) || decide (s.name=n)):=by
 rw[List.take_add_one,h,List.any_append];simp
theorem any_find {src:List Sc}{n t:ByteArray} (h:findS src n=some t):src.any (fun s=>decide (s.name=n))=true:=by
 obtain⟨s,hs,hn,-⟩:=findS_mem h;exact List.any_eq_true.2 ⟨s,hs,by simpa using hn⟩
theorem cv_get {cs:List Cv}{ns:List ByteArray} (h:cs.map Cv.name=ns){j:Nat}{n:ByteArray} (hn:ns[j]? = some n):∃c,cs[j]? = some c∧c.name=n:=by
 rw[←h,List.getElem?_map] at hn;cases hc:cs[j]? with
 | none=>rw[hc] at hn;cases hn
 | some c =>
  rw[hc] at hn;exact⟨c,rfl,Option.some.inj hn⟩
theorem names_true {w:World}{sv av:Value}{src:List Sc}{attrs:List At} (hs:ScS w (· < w.heap.size) sv src) (ha:AtS w (· < w.heap.size) av attrs) (z1:twoZ (src.map scP)≤1048576) (z2:twoZ (attrs.map atP)≤1048576){m:Int} (hg:Glob m w) (h3:3≤w.heap.size) :
  Calls Tryz.prog 4 #[sv,av] w fun e w'=>e=.returned (.bool true)∧Below w.heap.size w w':=by
 have hall:∀W,Below w.heap.size w W→Glob m W∧3≤W.heap.size∧ScS W (· < w.heap.size) sv src∧AtS W (· < w.heap.size) av attrs∧(∀k,k<w.heap.size→k<W.heap.size):=fun W hb=>⟨hg.chg (Chg.below hb (fun _=>False)) (fun _ h=>h.elim),Nat.le_trans h3 hb.size,TwoS.below hs hb,TwoS.below ha hb,fun k hk=>Nat.lt_of_lt_of_le hk hb.size⟩
 have hG:=great_any hs ha (fun k h=>h) (fun k h=>h) z1 z2;have hL:=fun W (hW:Below w.heap.size w W)=>blives_any (hall W hW).1 (hall W hW).2.1
 have hO:=fun (hf:Fine src attrs) W (hW:Below w.heap.size w W)=>order_any (hall W hW).2.2.1 (hall W hW).2.2.2.2 (Nat.le_trans (Fine.src hf).2.2.1 (by decide)) (Fine.src hf).1 (hall W hW).1 (hall W hW).2.1
 have hR:=fun (hf:Fine src attrs) W (hW:Below w.heap.size w W)=>bread_any (hall W hW).2.2.1 (hall W hW).2.2.2.1 (hall W hW).2.2.2.2 (hall W hW).2.2.2.2 hf (hall W hW).1 (hall W hW).2.1
 have hso:∀W,Below w.heap.size w W→∀(k:Nat) s,src[k]? = some s→∃A c b off,sv=.slice A src.length c∧A=some ⟨b,off,none⟩∧W.cell? ⟨b,off+k*2,none⟩=some (.string s.name):=fun W hW k s hk=>by
  obtain⟨A,c,e,-,h⟩:=(hall W hW).2.2.1;rw[List.length_map] at e;obtain⟨b,off,h1,-,h2,-⟩:=h k (scP s) (by rw[List.getElem?_map,hk];rfl);exact⟨A,c,b,off,e,h1,h2⟩
 obtain⟨ns,hns⟩:∃ns,(orderM src).1=ns:=⟨_,rfl⟩;obtain⟨ds0,hds⟩:∃ds,(orderM src).2=ds:=⟨_,rfl⟩;have hgo:=good_order src;have hfw:=fun (hf:Fine src attrs)=>names_few hf
 simp only[hns,hds] at hO hR hfw;rw[hns] at hgo;obtain⟨nk,hnk⟩:∃nk,ns.length=nk:=⟨_,rfl⟩;obtain⟨nd,hnd⟩:∃nd,ds0.length=nd:=⟨_,rfl⟩;obtain⟨sn,hsn⟩:∃sn,src.length=sn:=⟨_,rfl⟩;simp only[hnk,hnd] at hfw;simp only[hsn] at hso;obtain⟨As,cs0,hsv,-⟩:=id hs;obtain⟨Aa,ca,hav,-⟩:=id ha;rw[List.length_map,hsn] at hsv;generalize (attrs.map atP).length=an at *;subst hsv hav;have HN:=hidH3 hnk hnd hsn;have HH:=hidH6 hL hO hR hso hgo hfw;clear hall hL hO hR hso hgo hfw hs ha z1 z2 hg h3 hns hds hnk hnd hsn
 go_enter Tryz.func4,Tryz.ntmps4
 go_wp2_with fail
 refine hG.mono ?_;intro e w1 hP;unfold GrP at hP;obtain⟨gb,rfl,hgb,hb1⟩:=hP;have HB1:=Lib.hid hb1;clear hG hb1;cases gb
 ·have Hf:=Lib.hid (hgb rfl);clear hgb
  go_wp2_with fail
  refine (HH.out.2.1 Hf.out w1 HB1.out).mono ?_;rintro e w2 ⟨nv,dv,rfl,hr1,hr2,hb2⟩;obtain⟨An,cn,hnv⟩:=own_form hr1;obtain⟨Ad,cd,hdv⟩:=own_form hr2;rw[HN.out.1] at hnv hr1;rw[HN.out.2.1] at hdv;subst hnv hdv;have HB2:=hidH2 (HB1.out.trans (hb2.mono HB1.out.size)) hr1;clear hr1 hr2 hb2
  go_wp2_with fail
  refine (HH.out.2.2.1 Hf.out w2 HB2.out.1).mono ?_;rintro e w3 ⟨nv2,cv,fv,cs,n7,rfl,hR⟩;rw[HN.out.1] at hR;obtain⟨A8,c8,hcv⟩:=own_form hR.rc;obtain⟨A7,c7,hfv⟩:=own_form hR.rd;subst hcv hfv;have hb3:Below w.heap.size w w3:=HB2.out.1.trans (hR.below.mono HB2.out.1.size);have hlen:=hR.len;have hnm:=hR.nms;rw[List.take_of_length_le (by rw[HN.out.1];exact Nat.le_refl _)] at hlen hnm;rw[List.length_append,HN.out.2.1] at hlen;have hrn:=(Chg.below hR.below (fun _=>False)).owns HB2.out.2 (fun _ _ h=>h);have hcn:∀W,Below w3.heap.size w3 W→∀(j:Nat) n,ns[j]? = some n→∃g,An=some ⟨g,0,none⟩∧W.cell? ⟨g,j,none⟩=some (.string n):=fun W hW j n hn=>by
   obtain⟨g,h1,h2,h4⟩:=own_at hrn (i:=j) (u:=.string n) (by simp[rowTx,hn]);exact⟨g,h1,(hW.cell (p:=⟨g,j,none⟩) h2).trans h4⟩
  have hcc:∀W,Below w3.heap.size w3 W→∀(j:Nat) n,ns[j]? = some n→∃g A k,A8=some ⟨g,0,none⟩∧W.cell? ⟨g,j*6,none⟩=some (.string n)∧W.cell? ⟨g,j*6+2,none⟩=some (.slice A (chapM src attrs n).diags.length k):=fun W hW j n hn=>by
   obtain⟨c,hc,rfl⟩:=cv_get hnm hn;obtain⟨A,k,hd⟩:=hR.dlen c (List.mem_of_getElem? hc);have f0:=flat_get cvCells 6 (fun _=>rfl) (i:=0) (u:=.string c.name) hc rfl;have f2:=flat_get cvCells 6 (fun _=>rfl) (i:=2) (u:=c.d) hc rfl;obtain⟨g,h1,h2,h4⟩:=own_at hR.rc f0;obtain⟨g',h1',-,h5⟩:=own_at hR.rc f2;rw[h1] at h1';injection h1' with h1'
   injection h1' with h1' _ _
   subst h1';exact⟨g,A,k,h1,(hW.cell (p:=⟨g,j*6,none⟩) h2).trans h4,(hW.cell (p:=⟨g,j*6+2,none⟩) h2).trans (by rw[h5,hd])⟩
  have hn7:nd≤n7:=by omega
  have hfew:=HH.out.2.2.2.2.2 Hf.out;have hsn100:sn≤100:=by have h:=(Fine.src Hf.out).2.2.1;rw[HN.out.2.2] at h;exact h
  have HR:=hidH4 hb3 hcn hcc hlen;clear hR hb3 hcn hcc hlen hnm hrn
  go_wp2_with fail
  generalize decide (n7<nd)=bq
  go_loopg [9,10] nk (fun q mv iv wr=>∃j mm:Nat,j+q=nk∧mm≤nd+j*300100000∧mv=.int .i64 mm∧iv=.int .i64 j∧Hid (Below w3.heap.size w3 wr∧mm=nd+(allD src attrs (ns.take j)).length))
  case atStart=>exact⟨0,nd,by omega,by omega,rfl,rfl,Lib.hid ⟨Below.refl _ _,by simp[allD]⟩⟩
  case round =>
   obtain⟨j,mm,hj,hmm,rfl,rfl,HL⟩:=hrel
   by_cases hlt:j<nk
   ·obtain⟨n,hn⟩:∃n,ns[j]? = some n:=⟨_,List.getElem?_eq_getElem (by rw[HN.out.1];exact hlt)⟩;have HJ:=Lib.hid hn;clear hn;obtain⟨wO,hO⟩:∃x,x=wr:=⟨_,rfl⟩;subst hO;obtain⟨q1,hq⟩:∃q1,q1=gk:=⟨_,rfl⟩;subst hq
    go_wp2_with fail
    go_loopg [11,12] sn (fun q2 tv kv wr=>∃(k:Nat) (b:Bool),k+q2=sn∧tv=.bool b∧kv=.int .i64 k∧Hid (Below w3.heap.size w3 wr∧b=(src.take k).any (fun s=>decide (s.name=n))))
    case atStart=>exact⟨0,false,by omega,rfl,rfl,Lib.hid ⟨HL.out.1,rfl⟩⟩
    case round =>
     obtain⟨k,b,hk,rfl,rfl,HK⟩:=hrel
     by_cases hlk:k<sn
     ·obtain⟨s,hsk⟩:∃s,src[k]? = some s:=⟨_,List.getElem?_eq_getElem (by rw[HN.out.2.2];exact hlk)⟩;obtain⟨A,c,bb,off,hsl,hA,hcs⟩:=HH.out.2.2.2.1 wr (HR.out.1.trans (HK.out.1.mono HR.out.1.size)) k s hsk;injection hsl with h1 _ h5
      subst h5;rw[hA] at h1;obtain⟨g,hAn,hcn⟩:=HR.out.2.1 wr HK.out.1 j n HJ.out;subst h1 hAn;obtain⟨x,hx⟩:∃x,s.name=x:=⟨_,rfl⟩;rw[hx] at hcs;have he:=toL_eq x n;obtain⟨d,hd⟩:∃d,decide (x=n)=d:=⟨_,rfl⟩;rw[hd] at he;have HD:=Lib.hid (show (src.take (k+1)).any (fun s=>decide (s.name=n))=(b || d) by rw[any_step hsk,hx,hd,←HK.out.2]);clear hd hx hsk hA;cases b
      ·go_wp2_with fail
       go_quiet (fail)
       go_wp2
       go_roundg (gk-1)
       case measure=>omega
       case rel=>exact⟨k+1,d,by omega,rfl,by go_num,Lib.hid ⟨Below.drewA HK.out.1 _,HD.out.symm⟩⟩
      ·go_wp2_with fail
       go_quiet (fail)
       go_wp2
       go_roundg (gk-1)
       case measure=>omega
       case rel=>exact⟨k+1,true,by omega,rfl,by go_num,Lib.hid ⟨Below.drewA HK.out.1 _,HD.out.symm⟩⟩
     ·obtain rfl:k=sn:=by omega
      have hbt:b=true:=by
       obtain⟨tx,htx⟩:=(HH.out.2.2.2.2.1.1 n (List.mem_of_getElem? HJ.out)).1;have h:=HK.out.2;rw[List.take_of_length_le (by rw[HN.out.2.2];exact Nat.le_refl _),any_find htx] at h;exact h
      subst hbt;have HK1:=Lib.hid HK.out.1;obtain⟨wP,hP⟩:∃x,x=wr:=⟨_,rfl⟩;subst hP;obtain⟨q3,hq⟩:∃q3,q3=gk:=⟨_,rfl⟩;subst hq;clear HK hk hlk
      go_wp2_with fail
      go_loopg [11,13] j (fun q2 tv kv wr=>∃(k:Nat),k+q2=j∧tv=.bool true∧kv=.int .i64 k∧Hid (Below w3.heap.size w3 wr))
      case atStart=>exact⟨0,by omega,rfl,rfl,HK1⟩
      case round =>
       obtain⟨k,hk,rfl,rfl,HK⟩:=hrel;obtain⟨g,hAn,hcn⟩:=HR.out.2.1 wr HK.out j n HJ.out;subst hAn
       by_cases hlk:k<j
       ·obtain⟨x,hxk⟩:∃x,ns[k]? = some x:=⟨_,List.getElem?_eq_getElem (by rw[HN.out.1];omega)⟩;obtain⟨g',hg',hcx⟩:=HR.out.2.1 wr HK.out k x hxk;injection hg' with hg'
        injection hg' with hg' _ _
        subst hg';have hne:x≠n:=fun e=>by
         have h1:=(List.getElem?_eq_some_iff.1 hxk);have h2:=(List.getElem?_eq_some_iff.1 HJ.out);exact List.pairwise_iff_getElem.1 HH.out.2.2.2.2.1.2 k j h1.1 h2.1 hlk (by rw[h1.2,h2.2,e])
        have he:=toL_eq x n;rw[decide_eq_false hne] at he;clear hxk hne;have hkn:k<nk:=by omega
        go_wp2_with fail
        go_quiet (fail)
        go_wp2
        go_roundg (gk-1)
        case measure=>omega
        case rel=>exact⟨k+1,by omega,rfl,by go_num,Lib.hid (Below.drewA HK.out _)⟩
       ·obtain rfl:k=j:=by omega
        obtain⟨g8,A9,k9,hA8,hc8,hd8⟩:=HR.out.2.2.1 wr HK.out k n HJ.out;subst hA8;have hnb:n≠bookN:=(HH.out.2.2.2.2.1.1 n (List.mem_of_getElem? HJ.out)).2;have e1:(n.toList==[98,111,111,107])=false:=by have h:=toL_eq n bookN;rw[Lib.toList_data bookN,decide_eq_false hnb] at h;exact h
        obtain⟨d,hd⟩:∃d,(chapM src attrs n).diags.length=d:=⟨_,rfl⟩;have hdf:d≤300100000:=hd ▸ chap_few Hf.out n;rw[hd] at hd8;have HD:=Lib.hid hd;clear hd hnb;have hk2:k≤8002:=by omega
        have hwr:IntKind.i64.wrap ((mm:Int)+(d:Int))=(mm:Int)+(d:Int):=IntWalk.i64_in _ (by omega)
        go_wp2_with fail
        go_quiet (fail)
        go_wp2
        go_roundg (q1-1)
        case measure=>omega
        case rel=>exact⟨k+1,mm+d,by omega,by omega,by go_num,by go_num,Lib.hid ⟨Below.drewA HK.out _,by rw[List.take_add_one,HJ.out];show _=nd+(allD src attrs (ns.take k++[n])).length;rw[allD_snoc,List.length_append,HD.out,HL.out.2];omega⟩⟩
   ·obtain rfl:j=nk:=by omega
    have hm7:mm=n7:=by
     have h:=HL.out.2;rw[List.take_of_length_le (by rw[HN.out.1];exact Nat.le_refl _)] at h;have:=HR.out.2.2.2
     omega
    subst hm7
    go_wp2_with fail
    refine (HH.out.1 wr (HR.out.1.trans (HL.out.1.mono HR.out.1.size))).mono ?_;rintro e w4 ⟨rfl,hb4⟩;have HB4:=Lib.hid ((HR.out.1.trans (HL.out.1.mono HR.out.1.size)).trans (hb4.mono (HR.out.1.trans (HL.out.1.mono HR.out.1.size)).size));clear hb4
    go_wp2_with fail
    go_ret
    exact⟨rfl,HB4.out⟩
 ·clear hgb
  go_wp2_with fail
  refine (HH.out.1 w1 HB1.out).mono ?_;rintro e w2 ⟨rfl,hb2⟩
  go_wp2_with fail
  go_ret
  exact⟨rfl,HB1.out.trans (hb2.mono HB1.out.size)⟩
end Go.Proofs.YtkkebmciiiajeaaGreatDoor
namespace Go.Proofs.YtkkebmciiiajeaaGreatDoor
open Go.RowKit Go.WideShapes Go.ChangeShapes
section
variable {H:Type} {enc:TypeId×Value→H} {P:Program}
theorem post_kept {f:Func}{s:ChangeSpec}{apart fresh handsOn again:Bool}{W W':World}{args:Array Value}{v:Value}{ds gs:List (DataW H)}{before pa pv:List MemPlace}
  (hW:DataW.Whole enc P f.params.toList s.vars apart W args.toList ds gs before) (hb:Below W.heap.size W W')
  (hres:∀(b:Nat) (sp:Nat→Bool) (hd:Bool),DataW.TrodAll enc P W' b sp hd f.resultTypes.toList (v.resultList f.resultTypes.size) (s.fn H (ds++gs)).results [])
  (hargs:∀sp:Nat→Bool,(∀p∈before,sp p.block=true)→DataW.TrodAll enc P W' 0 sp true f.params.toList args.toList (s.fn H (ds++gs)).args pa)
  (hvars:∀sp:Nat→Bool,(∀p∈before,sp p.block=true)→DataW.TrodVars enc P W' sp s.vars (s.fn H (ds++gs)).vars pv)
  (hps:before=pa++pv)
  (hok:∀(j:Nat) (t:TypeId) (r:Value),f.resultTypes[j]? = some t→(v.resultList f.resultTypes.size)[j]? = some r→Value.okWide P W' .any 0 t r) :
  s.post enc P f apart fresh handsOn again W args v W':=by
 have old:∀p∈before,p.block<W.heap.size:=fun p hp=>hW.lt p hp
 have here:∀p∈before,(fun b=>decide (b<W.heap.size)) p.block=true:=fun p hp=>by simpa using old p hp
 refine⟨ds,gs,before,[],pa,pv,hW,hres _ _ _,hargs _ here,hvars _ here,World.keptBut_mono (fun p hp=>⟨hp,?_⟩) (hb.frame (·∈before)),fun _=>?_⟩
 ·rw[hps,List.mem_append] at hp;exact Or.inr hp
 ·obtain⟨_,_,_,_,_,hz,hn⟩:=hW;refine⟨hok,_,_,([]++pa)++pv,⟨[]++pa,pv,trodAll_append (hargs _ (fun _ _=>rfl)) (hres _ _ _),hvars _ (fun _ _=>rfl),rfl,fun b off hp=>?_,fun ha=>?_⟩,fun p hp _=>?_⟩
  ·have hin:MemPlace.cell b off∈before:=by rw[hps];simpa using hp
   rw[hb.frozen (old _ hin)];exact hz b off hin
  ·have:=hn ha
   rw[hps] at this;simpa using this
  ·rw[hps];simpa using hp
end
section
variable {H:Type} {enc:TypeId×Value→H} {P:Program}
theorem trodAll_later (hl:laidOutB P=true){W W':World}{sp:Nat→Bool} (hb:Below W.heap.size W W'):∀{ts:List TypeId}{vs:List Value}{ds:List (DataW H)}{p:List MemPlace},
  (∀t∈ts,P.readableRec t=true∧t<P.types.size)→DataW.TrodAll enc P W 0 (fun _=>true) true ts vs ds p→(∀x∈p,x.block<W.heap.size)→(∀x∈p,sp x.block=true) →
  DataW.TrodAll enc P W' 0 sp true ts vs ds p:=by
 intro ts
 induction ts with
 | nil =>
  intro vs ds p _ h _ _;obtain⟨rfl,rfl,rfl⟩:=trodAll_nil h;exact trodAll_mk0
 | cons t ts ih =>
  intro vs ds p hr h hlt hs;obtain⟨v,vs',d,ds',q,q',rfl,rfl,rfl,h0,r⟩:=trodAll_cons h;have ht:=hr t (List.mem_cons_self ..);exact trodAll_cons_mk (WideElems.Trod_stays hl ht.1 ht.2 h0 (fun x hx=>hb.same (hlt x (List.mem_append_left _ hx))) (fun x hx=>hs x (List.mem_append_left _ hx)))
   (ih (fun u hu=>hr u (List.mem_cons_of_mem _ hu)) r (fun x hx=>hlt x (List.mem_append_right _ hx)) (fun x hx=>hs x (List.mem_append_right _ hx)))
theorem law_post {f:Func}{s:ChangeSpec}{apart fresh handsOn again:Bool}{W W':World}{args:Array Value}{ds gs:List (DataW H)}{before:List MemPlace}{b:TypeId}
  (hW:DataW.Whole enc P f.params.toList s.vars apart W args.toList ds gs before) (hb:Below W.heap.size W W') (hl:laidOutB P=true)
  (hr:∀t∈f.params.toList,P.readableRec t=true∧t<P.types.size) (hv:s.vars=[])
  (hfn:s.fn H (ds++[])={ results:=[.lit (.bool true)],args:=ds }) (hres:f.resultTypes=#[b]) (hbool:P.underlying b=some .bool) :
  ∃v,Ending.returned (.bool true)=.returned v∧s.post enc P f apart fresh handsOn again W args v W':=by
 have hW':=hW;obtain⟨p,q,hA,hV,hpq,_,_⟩:=hW;rw[hv] at hV;obtain⟨rfl,rfl⟩:=trodVars_none hV;rw[List.append_nil] at hpq;subst hpq;have hlt:∀x∈before,x.block<W.heap.size:=fun x hx=>hW'.lt x hx
 refine⟨_,rfl,post_kept (pa:=before) (pv:=[]) hW' hb (fun _ _ _=>?_) (fun sp hs=>?_) (fun _ _=>?_) (by simp) (ok_one hres rfl (okWide_bool_mk hbool _))⟩
 ·rw[hfn,hres];exact trodAll_cons_mk (shut_bool hbool _) trodAll_mk0
 ·rw[hfn];exact trodAll_later hl hb hr hA hlt hs
 ·rw[hfn,hv];rfl
end
theorem laidOut:laidOutB Tryz.prog=true:=by kernel_rfl
theorem own:ownKnob Tryz.prog.godebug=none:=by kernel_rfl
theorem maxLen_cell (W:World) (h:W.ShapedOpen Tryz.prog):∃m,W.cell? ⟨0,0,none⟩=some (.int .i64 m) :=
 cell_of_shapedOpen_int (zero:=#[.int .i64 0]) (t:=3) h (of_decide_eq_true (by kernel_rfl)) (by kernel_rfl) rfl (by kernel_rfl) (by kernel_rfl) Tryz.underlying3
def acceptCells:Array Value:=#[.int .u8 128,.int .u8 191,.int .u8 160,.int .u8 191,.int .u8 128,.int .u8 159,.int .u8 144,.int .u8 191,.int .u8 128,.int .u8 143,
 .int .u8 0,.int .u8 0,.int .u8 0,.int .u8 0,.int .u8 0,.int .u8 0,.int .u8 0,.int .u8 0,.int .u8 0,.int .u8 0,.int .u8 0,.int .u8 0,.int .u8 0,.int .u8 0,.int .u8 0,.int .u8 0,.int .u8 0,.int .u8 0,.int .u8 0,.int .u8 0,.int .u8 0,.int .u8 0]
def putCells (h:Array Obj) (g:Nat) (cs:Array Value):Array Obj:=h.modify g fun
 | .cells _ t frozen=>.cells cs t frozen
 | o=>o
noncomputable def laidWorld (os:Os):World :=
 { World.holding Tryz.prog os ⟨#[],#[],[]⟩ with heap:=putCells (putCells (World.holding Tryz.prog os ⟨#[],#[],[]⟩).heap 1 (Go.Pinned.utf8FirstZ.map fun (n:Nat)=>Value.int .u8 (n:Int)).toArray) 2 acceptCells }
theorem data_first:Rows.laid_unicode_utf8_first=Lib.firstData:=by kernel_rfl
theorem data_accept:(Rows.laid_unicode_utf8_acceptRanges:DataW Unit)=Lib.acceptData:=by kernel_rfl
theorem tabs_of {W:World}{r:List (String×DataW Unit)} (h:laidMet Tryz.prog (("unicode/utf8.acceptRanges",Rows.laid_unicode_utf8_acceptRanges)::("unicode/utf8.first",Rows.laid_unicode_utf8_first)::r) W):Lib.Utf8Tabs 1 2 W:=by
 rw[data_first,data_accept] at h;exact utf8Tabs_of_readsT (ρ:=Tryz.lays260_ren) (U8Types.of260 Tryz.lays260) ⟨by kernel_rfl,by kernel_rfl,by kernel_rfl,by kernel_rfl,by kernel_rfl,by kernel_rfl,by kernel_rfl⟩ (Lib.laidMet.reads h (.tail _ (.head _))) (Lib.laidMet.reads h (.head _))
end Go.Proofs.YtkkebmciiiajeaaGreatDoor
namespace Go.Bd
open Go.ChangeShapes Go.WideShapes
section
variable {H:Type} {enc:TypeId×Value→H} {P:Program} {w:World} {base:Nat} {sp:Nat→Bool} {held:Bool}
theorem take_drop_one {cs:List Value}{i:Nat} (h:i<cs.length):(cs.drop i).take 1=[cs[i]]:=by
 rw[List.drop_eq_getElem_cons h];rfl
theorem open_fields {e:TypeId}{fs:Array Field}{a:Addr}{cs:List Value}{fuel:Nat}{x:DataW H×List MemPlace} (he:P.underlying e=some (.struct fs)) (hc:P.cellsOf e=fs.size)
  (ho:∀(i:Nat) f,fs[i]? = some f→f.offset=i∧P.cellsOf f.type=1) (h1:w.cells? base a (P.cellsOf e)=some cs) (h2:DataW.trod enc P w base sp held fuel e cs=some x) :
  ∃(m:Nat) (V:Nat→Value) (D:Nat→DataW H×List MemPlace),x.1=.agg ((List.range fs.size).map fun i=>(D i).1)∧∀(i:Nat) f,fs[i]? = some f→w.cell? (a.add i)=some (V i)∧DataW.trod enc P w base sp held m f.type [V i]=some (D i):=by
 obtain⟨_,hlen,hcell⟩:=World.cells?_some h1;obtain⟨xs,k,hk,hxy,hcl,hxl,hf⟩:=DataW.trod_struct he h2;refine⟨k,fun i=>cs.getD i (.int .i64 0),fun i=>xs.getD i (.nil,[]),?_,fun i f hif=>?_⟩
 ·rw[hxy]
  show DataW.agg _=_
  congr 1
  rw[Deep.map_by_index xs (.nil,[]) (·.1),hxl]
 ·obtain⟨o,c⟩:=ho i f hif;have hi:i<fs.size:=(Array.getElem?_eq_some_iff.1 hif).1;have hic:i<cs.length:=by omega
  have hix:i<xs.length:=by omega
  have g:=hf i f hif;rw[o,c,take_drop_one hic,List.getElem?_eq_getElem hix] at g;have hce:=hcell i (by omega);refine⟨?_,?_⟩
  ·rw[hce];simp[List.getD,List.getElem?_eq_getElem hic]
  ·simp only[List.getD,List.getElem?_eq_getElem hic,List.getElem?_eq_getElem hix,Option.getD_some];exact g
theorem open_addr {w:World}{a:Addr}{v:Value} (h:w.cell? (a.add 0)=some v):∃b off,a=⟨b,off,none⟩∧b<w.heap.size:=by
 obtain⟨b,off,spot⟩:=a;have e:(⟨b,off,spot⟩:Addr).add 0=⟨b,off,spot⟩:=by simp[Addr.add]
 rw[e] at h;refine⟨b,off,?_,World.block_lt_of_cell? w _ h⟩;cases spot with
 | none=>rfl
 | some s =>
  exfalso;simp only[World.cell?] at h;split at h<;>simp at h
end
end Go.Bd
namespace Go.Proofs.YtkkebmciiiajeaaGreatDoor
open Go.ChangeShapes Go.WideShapes Go.RowKit Go.Bd
theorem bulk_sum {H:Type}{α:Type}{s:α→Nat}{D:α→DataW H}:∀{r:List α},(∀i∈r,s i≤Rows.uptoBulk (D i))→(r.map s).sum≤Rows.uptoBulkAll (r.map D)
 | [],_=>Nat.le_refl _
 | i::r,h=>by
  have h1:=h i (List.mem_cons_self ..);have h2:=bulk_sum (r:=r) fun j hj=>h j (List.mem_cons_of_mem _ hj)
  simp only[List.map_cons,List.sum_cons,Rows.uptoBulkAll];omega
theorem sum_len {α:Type} (f:α→Nat):∀l:List α,(l.map fun x=>1+f x).sum=l.length+(l.map f).sum
 | []=>rfl
 | a::l=>by
  have:=sum_len f l
  simp only[List.map_cons,List.sum_cons,List.length_cons];omega
section
variable {H:Type} {enc:TypeId×Value→H} {w:World} {sp:Nat→Bool} {held:Bool}
theorem open_src_cells {fuel:Nat}{cs:List Value}{x:DataW H×List MemPlace} (h:DataW.trod enc Tryz.prog w 0 sp held fuel 22 cs=some x) :
  ∃v l,cs=[v]∧ScS w (fun k=>k<w.heap.size) v l∧twoZ (l.map scP)+1≤Rows.uptoBulk x.1:=by
 rcases Deep.open_slice (e:=43) Tryz.underlying22 h with ⟨rfl,rfl⟩|⟨a,len,cap,m,n,D,Pl,rfl,_,hl,_,hmm,rfl,hx⟩
 ·exact⟨_,[],rfl,TwoS.nil _ _,by simp[twoZ,Rows.uptoBulk]⟩
 ·have hlm:len≤m:=by rw[hmm];split<;>omega
  have hc2:Tryz.prog.cellsOf 43=2:=by kernel_rfl
  have each:∀i,i<len→∃q:ByteArray×ByteArray,w.cell? (a.add (i*2))=some (.string q.1)∧w.cell? (a.add (i*2+1))=some (.string q.2)∧1+(q.1.size+q.2.size)≤Rows.uptoBulk (D i):=by
   intro i hi;obtain⟨cs',h1,h2⟩:=hx i (by omega);rw[hc2] at h1;obtain⟨k,V,DD,hag,hf⟩:=open_fields Tryz.underlying43 (by rw[hc2];rfl) (fun i f hif=>by
    have hi':i<2:=(Array.getElem?_eq_some_iff.1 hif).1
    match i,hi' with
    | 0,_=>obtain rfl:=Option.some.inj hif;exact⟨rfl,by kernel_rfl⟩
    | 1,_=>obtain rfl:=Option.some.inj hif;exact⟨rfl,by kernel_rfl⟩) (by rw[hc2];exact h1) h2
   obtain⟨c0,g0⟩:=hf 0 _ rfl;obtain⟨c1,g1⟩:=hf 1 _ rfl;obtain⟨s0,e0,d0,_⟩:=DataW.trod_string Tryz.underlying9 g0;obtain⟨s1,e1,d1,_⟩:=DataW.trod_string Tryz.underlying9 g1;simp only[List.cons.injEq,and_true] at e0 e1;have hsum:Rows.uptoBulk (D i)=1+(Rows.uptoBulk (DD 0).1+Rows.uptoBulk (DD 1).1):=by
    have hag':D i=.agg [(DD 0).1,(DD 1).1]:=hag;rw[hag'];simp only[Rows.uptoBulk,Rows.uptoBulkAll];omega
   rw[d0,d1] at hsum;simp only[Rows.uptoBulk] at hsum;have hn0:s0.data.toList.length=s0.size:=Array.length_toList;have hn1:s1.data.toList.length=s1.size:=Array.length_toList;refine⟨(s0,s1),?_,?_,by simp only;omega⟩
   ·rw[e0,Deep.add_add,Nat.add_zero] at c0;exact c0
   ·rw[e1,Deep.add_add] at c1;exact c1
  haveI:Inhabited (ByteArray×ByteArray):=⟨(⟨#[]⟩,⟨#[]⟩)⟩
  obtain⟨S,hS⟩:=Deep.choose_lt each;have hpp:((List.range len).map fun i=>(⟨(S i).1,(S i).2⟩:Sc)).map scP=(List.range len).map S:=by
   rw[List.map_map];rfl
  refine⟨_,(List.range len).map fun i=>⟨(S i).1,(S i).2⟩,rfl,?_,?_⟩
  ·unfold ScS;rw[hpp];refine⟨some a,cap,by simp,by simpa using hl,fun j s hj=>?_⟩;have hjl:j<len:=by have:=(List.getElem?_eq_some_iff.1 hj).1;simpa using this
   rw[List.getElem?_map,List.getElem?_range hjl] at hj;simp only[Option.map_some,Option.some.injEq] at hj;subst hj;obtain⟨b,off,rfl,hb⟩:=open_addr (v:=.string (S 0).1) (by have:=(hS 0 (by omega)).1;rwa [Nat.zero_mul] at this);have hc:=(hS j hjl).1;have hd:=(hS j hjl).2.1;rw[Addr.add_lit] at hc hd;exact⟨b,off,rfl,hb,hc,hd⟩
  ·have h1:=bulk_sum (s:=fun i=>1+((S i).1.size+(S i).2.size)) (D:=D) (r:=List.range len) fun i hi=>(hS i (List.mem_range.1 hi)).2.2
   simp only[Rows.uptoBulk];rw[sum_len] at h1;rw[hpp];unfold twoZ;rw[List.map_map,List.length_map]
   show _+(List.map (fun i=>(S i).1.size+(S i).2.size) (List.range len)).sum+1≤_
   omega
theorem open_attrs_cells {fuel:Nat}{cs:List Value}{x:DataW H×List MemPlace} (h:DataW.trod enc Tryz.prog w 0 sp held fuel 23 cs=some x) :
  ∃v l,cs=[v]∧AtS w (fun k=>k<w.heap.size) v l∧twoZ (l.map atP)+1≤Rows.uptoBulk x.1:=by
 rcases Deep.open_slice (e:=47) Tryz.underlying23 h with ⟨rfl,rfl⟩|⟨a,len,cap,m,n,D,Pl,rfl,_,hl,_,hmm,rfl,hx⟩
 ·exact⟨_,[],rfl,TwoS.nil _ _,by simp[twoZ,Rows.uptoBulk]⟩
 ·have hlm:len≤m:=by rw[hmm];split<;>omega
  have hc2:Tryz.prog.cellsOf 47=2:=by kernel_rfl
  have each:∀i,i<len→∃q:ByteArray×ByteArray,w.cell? (a.add (i*2))=some (.string q.1)∧w.cell? (a.add (i*2+1))=some (.string q.2)∧1+(q.1.size+q.2.size)≤Rows.uptoBulk (D i):=by
   intro i hi;obtain⟨cs',h1,h2⟩:=hx i (by omega);rw[hc2] at h1;obtain⟨k,V,DD,hag,hf⟩:=open_fields Tryz.underlying47 (by rw[hc2];rfl) (fun i f hif=>by
    have hi':i<2:=(Array.getElem?_eq_some_iff.1 hif).1
    match i,hi' with
    | 0,_=>obtain rfl:=Option.some.inj hif;exact⟨rfl,by kernel_rfl⟩
    | 1,_=>obtain rfl:=Option.some.inj hif;exact⟨rfl,by kernel_rfl⟩) (by rw[hc2];exact h1) h2
   obtain⟨c0,g0⟩:=hf 0 _ rfl;obtain⟨c1,g1⟩:=hf 1 _ rfl;obtain⟨s0,e0,d0,_⟩:=DataW.trod_string Tryz.underlying9 g0;obtain⟨s1,e1,d1,_⟩:=DataW.trod_string Tryz.underlying9 g1;simp only[List.cons.injEq,and_true] at e0 e1;have hsum:Rows.uptoBulk (D i)=1+(Rows.uptoBulk (DD 0).1+Rows.uptoBulk (DD 1).1):=by
    have hag':D i=.agg [(DD 0).1,(DD 1).1]:=hag;rw[hag'];simp only[Rows.uptoBulk,Rows.uptoBulkAll];omega
   rw[d0,d1] at hsum;simp only[Rows.uptoBulk] at hsum;have hn0:s0.data.toList.length=s0.size:=Array.length_toList;have hn1:s1.data.toList.length=s1.size:=Array.length_toList;refine⟨(s0,s1),?_,?_,by simp only;omega⟩
   ·rw[e0,Deep.add_add,Nat.add_zero] at c0;exact c0
   ·rw[e1,Deep.add_add] at c1;exact c1
  haveI:Inhabited (ByteArray×ByteArray):=⟨(⟨#[]⟩,⟨#[]⟩)⟩
  obtain⟨S,hS⟩:=Deep.choose_lt each;have hpp:((List.range len).map fun i=>(⟨(S i).1,(S i).2⟩:At)).map atP=(List.range len).map S:=by
   rw[List.map_map];rfl
  refine⟨_,(List.range len).map fun i=>⟨(S i).1,(S i).2⟩,rfl,?_,?_⟩
  ·unfold AtS;rw[hpp];refine⟨some a,cap,by simp,by simpa using hl,fun j s hj=>?_⟩;have hjl:j<len:=by have:=(List.getElem?_eq_some_iff.1 hj).1;simpa using this
   rw[List.getElem?_map,List.getElem?_range hjl] at hj;simp only[Option.map_some,Option.some.injEq] at hj;subst hj;obtain⟨b,off,rfl,hb⟩:=open_addr (v:=.string (S 0).1) (by have:=(hS 0 (by omega)).1;rwa [Nat.zero_mul] at this);have hc:=(hS j hjl).1;have hd:=(hS j hjl).2.1;rw[Addr.add_lit] at hc hd;exact⟨b,off,rfl,hb,hc,hd⟩
  ·have h1:=bulk_sum (s:=fun i=>1+((S i).1.size+(S i).2.size)) (D:=D) (r:=List.range len) fun i hi=>(hS i (List.mem_range.1 hi)).2.2
   simp only[Rows.uptoBulk];rw[sum_len] at h1;rw[hpp];unfold twoZ;rw[List.map_map,List.length_map]
   show _+(List.map (fun i=>(S i).1.size+(S i).2.size) (List.range len)).sum+1≤_
   omega
end
theorem open_src {H:Type}{enc:TypeId×Value→H}{W:World}{base:Nat}{sp:Nat→Bool}{hd:Bool}{v:Value}{d:DataW H}{p:List MemPlace}
  (hv:Value.okWide Tryz.prog W .any base 22 v) (h:DataW.Trod enc Tryz.prog W 0 sp hd 22 v d p) :
  ∃l,ScS W (fun k=>k<W.heap.size) v l∧twoZ (l.map scP)+1≤Rows.uptoBulk d:=by
 obtain⟨fuel,hf⟩:=h;obtain⟨v',l,e,hs,hz⟩:=open_src_cells hf;obtain⟨a,n,c,rfl⟩:=okWide_slice Tryz.underlying22 hv;simp[Value.cells] at e;subst e;exact⟨l,hs,hz⟩
theorem open_attrs {H:Type}{enc:TypeId×Value→H}{W:World}{base:Nat}{sp:Nat→Bool}{hd:Bool}{v:Value}{d:DataW H}{p:List MemPlace}
  (hv:Value.okWide Tryz.prog W .any base 23 v) (h:DataW.Trod enc Tryz.prog W 0 sp hd 23 v d p) :
  ∃l,AtS W (fun k=>k<W.heap.size) v l∧twoZ (l.map atP)+1≤Rows.uptoBulk d:=by
 obtain⟨fuel,hf⟩:=h;obtain⟨v',l,e,hs,hz⟩:=open_attrs_cells hf;obtain⟨a,n,c,rfl⟩:=okWide_slice Tryz.underlying23 hv;simp[Value.cells] at e;subst e;exact⟨l,hs,hz⟩
end Go.Proofs.YtkkebmciiiajeaaGreatDoor
