/-
  What the chapter's laws share, part 6: plain facts, memory, and walks of functions. Its conditions: those that each theorem names.
-/
import Derived.Deep.QuietTactic
import Derived.Lib.Hide
import Derived.Sort.Walk0
import Derived.Laws.Cover1
import Derived.Deep.AppendLies
import Derived.OrdersHeld
import Derived.Deep.RegionHeld
import Derived.Lib.IndexMore
import Derived.OwnWalk
import Derived.Laws.AppendOwnNone
import Derived.Lib.AppendZeros
import Derived.Laws.CopyRow
import Derived.Shelf.Spec.SlicesInsertGrow
import Derived.Deep.DeepCutAuto
import Derived.Test.YtkdknllcllhpgaaGreatDoorK0
import Derived.Test.YtkdknllcllhpgaaGreatDoorK4
import Derived.Test.YtkdknllcllhpgaaGreatDoorK5
set_option linter.unusedSimpArgs false
set_option linter.unusedVariables false
set_option maxHeartbeats 16000000
set_option maxRecDepth 100000
namespace Go.Proofs.YtkdknllcllhpgaaGreatDoor
open Go.RowKit Go.Bd
theorem own_rowN {w:World}{base sz n:Nat}{e:TypeId}{v:Value}{xs:List Value} (h:w.ownsRow base e sz v n xs) (hn:0<n):∃g cap,v=.slice (some ⟨g,0,none⟩) n cap∧n≤cap∧cap≤maxLen∧g<w.heap.size∧(∀i u,xs[i]? = some u→w.cell? ⟨g,i,none⟩=some u)∧∀i,w.frozen? ⟨g,i,none⟩=false:=by
 obtain⟨h1,h2|⟨g,cap,cur,h2,h3,h4,h5,h6,h7,h8⟩⟩:=h
 ·omega
 ·refine⟨g,cap,h2,h5,h6,(Array.getElem?_eq_some_iff.1 h4).1,fun i u hu=>?_,fun i=>frozen_of_row w g i cur e h4⟩;rw[cell_of_row w g i cur e (0,0) h4];have hi:=(List.getElem?_eq_some_iff.1 hu).1;rw[←h8,List.getElem?_take_of_lt (by rw[←h8] at hi;simp at hi;omega)] at hu;simpa using hu
theorem own_rowL {w:World}{base sz n:Nat}{e:TypeId}{v:Value}{xs:List Value} (h:w.ownsRow base e sz v n xs):∃A cap,v=.slice A n cap∧n≤cap:=by
 obtain⟨h1,⟨h2,rfl⟩|⟨g,cap,cur,h2,h3,h4,h5,_⟩⟩:=h
 ·exact⟨none,0,h2,Nat.le_refl _⟩
 ·exact⟨_,_,h2,h5⟩
theorem Below.ofDrew (w:World) (n:Nat):Below w.heap.size w (w.drewN n):=((Chg.refl w (fun _=>False)).drewN n).toBelow (Nat.le_refl _) (fun _ h=>h.elim)
section
variable {w:World} {κ:Nat→Nat} {rb wm:Nat} {sv:Value} {v:Rv} {st:Ast} {pre:Stk} {nm:ByteArray} {cs:List Cd} {pb:List (Nat×Value)} {b:Nat} {rv:Value}
theorem ARd.pbl (h:ARd w κ rb wm sv v st (pre++[(nm,cs)])) (hv:v.sb=pb++[(b,rv)]):pb.length=pre.length:=by have:=h.len;rw[hv] at this;simpa using this
theorem ARd.last (h:ARd w κ rb wm sv v st (pre++[(nm,cs)])) (hv:v.sb=pb++[(b,rv)]):SrcAt w κ pre.length (b,rv) (nm,cs) :=
 h.src pre.length _ _ (by rw[hv,List.getElem?_append_right (by rw[h.pbl hv];exact Nat.le_refl _),h.pbl hv];simp) (by simp)
theorem ARd.openAt (h:ARd w κ rb wm sv v st (pre++[(nm,cs)])) (hv:v.sb=pb++[(b,rv)]):∃g cap,v.ov=.slice (some ⟨g,0,none⟩) (pre.length+1) cap∧w.cell? ⟨g,pre.length,none⟩=some (.pointer (some ⟨b,0,none⟩))∧pre.length+1≤cap:=by
 have ho:=h.opens;rw[List.length_append,List.length_singleton] at ho;obtain⟨g,cap,e,h1,_,_,h2,_⟩:=own_rowN ho (by omega);exact⟨g,cap,e,h2 pre.length _ (by rw[hv,List.map_append,List.getElem?_append_right (by simp[h.pbl hv])];simp[h.pbl hv]),h1⟩
theorem a_top (h:ARd w κ rb wm sv v st (pre++[(nm,cs)])) (hv:v.sb=pb++[(b,rv)]) (hn:pre.length≤1000) :
  Calls Tryz.prog 105 #[.pointer (some ⟨rb,0,none⟩)] w fun e w'=>e=.returned (.pointer (some ⟨b,0,none⟩))∧Below w.heap.size w w':=by
 obtain⟨g,cap,e,h1,h2⟩:=h.openAt hv;have c3:=h.hold.cell 3;rw[e] at c3;simp at c3;have e1:IntKind.i64.wrap ((pre.length:Int)+1-1)=(pre.length:Int):=by
  rw[show (pre.length:Int)+1-1=pre.length by omega];exact IntWalk.i64_in _ (by omega)
 have e2:((pre.length:Int)+1-1)=(pre.length:Int):=by omega
 have e3:IntKind.i64.wrap (pre.length:Int)=(pre.length:Int):=IntWalk.i64_in _ (by omega);have hi1:pre.length<pre.length+1:=by omega
 have hi2:¬((pre.length:Int)+1≤(pre.length:Int)):=by omega
 have hi3:(pre.length:Int)<(pre.length:Int)+1:=by omega
 clear h hv e h2;generalize pre.length=n at *
 go_enter Tryz.func105,Tryz.ntmps105
 go_wp2
 go_quiet (fail)
 go_wp2
 go_ret
 exact⟨rfl,Below.ofDrew w _⟩
theorem a_last_nil (h:SrcAt w κ pre.length (b,rv) (nm,[])) :
  Calls Tryz.prog 110 #[.pointer (some ⟨b,0,none⟩)] w fun e w'=>e=.returned (.pointer none)∧w=w':=by
 have c1:=h.hold.cell 1;obtain⟨A,cap,e,_⟩:=own_rowL h.row;dsimp only at e;rw[e] at c1;simp at c1;clear h e
 go_enter Tryz.func110,Tryz.ntmps110
 go_wp2
 go_ret
 exact⟨rfl,rfl⟩
theorem a_last_at {c:Cd} (h:SrcAt w κ pre.length (b,rv) (nm,cs++[c])) (hn:cs.length≤100000) :
  Calls Tryz.prog 110 #[.pointer (some ⟨b,0,none⟩)] w fun e w'=>(∃g cap,rv=.slice (some ⟨g,0,none⟩) (cs.length+1) cap∧e=.returned (.pointer (some ⟨g,cs.length*6,none⟩)))∧Below w.heap.size w w':=by
 have c1:=h.hold.cell 1;have hr:=h.row;rw[List.length_append,List.length_singleton] at hr;obtain⟨g,cap,e,h1,_,_,h2,_⟩:=own_rowN hr (by omega);dsimp only at e;have HE:=Lib.hid e;rw[e] at c1;simp at c1;have e1:IntKind.i64.wrap ((cs.length:Int)+1-1)=(cs.length:Int):=by
  rw[show (cs.length:Int)+1-1=cs.length by omega];exact IntWalk.i64_in _ (by omega)
 have e2:((cs.length:Int)+1-1)=(cs.length:Int):=by omega
 have e3:IntKind.i64.wrap (cs.length:Int)=(cs.length:Int):=IntWalk.i64_in _ (by omega);have hi1:cs.length<cs.length+1:=by omega
 have hi2:¬((cs.length:Int)+1≤(cs.length:Int)):=by omega
 have hi3:(cs.length:Int)<(cs.length:Int)+1:=by omega
 clear h hr e h2;generalize cs.length=n at *
 go_enter Tryz.func110,Tryz.ntmps110
 go_wp2
 go_quiet (fail)
 go_wp2
 go_ret
 exact⟨⟨g,cap,HE.out,rfl⟩,Below.ofDrew w _⟩
theorem a_holds (c:Cd) (w:World) :
  Calls Tryz.prog 151 #[.agg (cdCells c).toArray] w fun e w'=>e=.returned (.bool c.holds)∧Below w.heap.size w w':=by
 unfold cdCells Cd.holds
 go_enter Tryz.func151,Tryz.ntmps151
 go_wp2
 all_goals (go_ret;refine⟨by simp_all,(Below.refl _ w).alloc (Nat.le_refl _) _⟩)
theorem a_force_nil (h:SrcAt w κ pre.length (b,rv) (nm,[])) :
  Calls Tryz.prog 106 #[.pointer (some ⟨b,0,none⟩)] w fun e w'=>e=.returned (.bool true)∧Below w.heap.size w w':=by
 have hL:=a_last_nil h;clear h
 go_enter Tryz.func106,Tryz.ntmps106
 go_wp2_with fail
 refine hL.mono ?_;rintro e w' ⟨rfl,rfl⟩;go_wp2
 go_ret
 exact⟨rfl,Below.refl _ _⟩
theorem a_force_at {c:Cd} (h:SrcAt w κ pre.length (b,rv) (nm,cs++[c])) (hn:cs.length≤100000) :
  Calls Tryz.prog 106 #[.pointer (some ⟨b,0,none⟩)] w fun e w'=>e=.returned (.bool c.holds)∧Below w.heap.size w w':=by
 have hL:=a_last_at h hn;have hr:=h.row;rw[List.length_append,List.length_singleton] at hr;obtain⟨g,cap,e,h1,_,_,h2,_⟩:=own_rowN hr (by omega);have hc:∀i u,(cdCells c)[i]? = some u→w.cell? ⟨g,cs.length*6+i,none⟩=some u:=fun i u hu=>h2 _ _ (flat_get cdCells 6 (fun _=>rfl) (j:=cs.length) (by simp) hu)
 dsimp only at e;have HE:=Lib.hid e;have HC:=Lib.hid hc;have hg:g<w.heap.size:=‹g<w.heap.size›;clear h hr e h2 hc
 go_enter Tryz.func106,Tryz.ntmps106
 go_wp2_with fail
 refine hL.mono ?_;rintro e w1 ⟨⟨g',cap',e',rfl⟩,hb1⟩;obtain rfl:g=g':=by have:=HE.out.symm.trans e';simpa [Value.ownBlock] using (congrArg Value.ownBlock this)
 have hc:∀i u,(cdCells c)[i]? = some u→w1.cell? ⟨g,cs.length*6+i,none⟩=some u:=fun i u hu=>(hb1.cell (p:=⟨g,cs.length*6+i,none⟩) hg).trans (HC.out i u hu)
 have c0:=hc 0 _ rfl;have c1:=hc 1 _ rfl;have c2:=hc 2 _ rfl;have c3:=hc 3 _ rfl;have c4:=hc 4 _ rfl;have c5:=hc 5 _ rfl;rw[Nat.add_zero] at c0;clear hc;have hH:=a_holds c;unfold cdCells at hH
 go_wp2_with fail
 refine (hH _).mono ?_;rintro e w' ⟨rfl,hb⟩;go_wp2
 go_ret
 exact⟨rfl,hb1.trans (hb.mono hb1.size)⟩
end
end Go.Proofs.YtkdknllcllhpgaaGreatDoor
namespace Go.Bd
open Go.RowKit
def TwoS (w:World) (S:Nat→Prop) (v:Value) (l:List (ByteArray×ByteArray)):Prop :=
 ∃A c,v=.slice A l.length c∧l.length≤c∧∀(j:Nat) f,l[j]? = some f→∃b off,A=some ⟨b,off,none⟩∧S b∧w.cell? ⟨b,off+j*2,none⟩=some (.string f.1)∧w.cell? ⟨b,off+j*2+1,none⟩=some (.string f.2)
def atP (a:At):ByteArray×ByteArray:=(a.name,a.value)
def scP (a:Sc):ByteArray×ByteArray:=(a.name,a.text)
def AtS (w:World) (S:Nat→Prop) (v:Value) (l:List At):Prop:=TwoS w S v (l.map atP)
def ScS (w:World) (S:Nat→Prop) (v:Value) (l:List Sc):Prop:=TwoS w S v (l.map scP)
section
variable {w w':World} {S T:Nat→Prop} {v:Value} {l:List (ByteArray×ByteArray)}
theorem TwoS.chg (h:TwoS w S v l) (hc:Chg w w' T) (hT:∀k,S k→¬T k):TwoS w' S v l:=by
 obtain⟨A,c,h1,h2,h3⟩:=h;refine⟨A,c,h1,h2,fun j f hf=>?_⟩;obtain⟨b,off,h4,h5,h6,h7⟩:=h3 j f hf;exact⟨b,off,h4,h5,hc.cell (p:=⟨b,off+j*2,none⟩) (hT b h5) h6,hc.cell (p:=⟨b,off+j*2+1,none⟩) (hT b h5) h7⟩
theorem TwoS.below (h:TwoS w S v l) (hb:Below w.heap.size w w'):TwoS w' S v l:=h.chg (Chg.below hb (fun _=>False)) (fun _ _ h=>h)
theorem TwoS.nil (w:World) (S:Nat→Prop):TwoS w S (.slice none 0 0) []:=⟨none,0,rfl,Nat.le_refl _,fun j f h=>by simp at h⟩
theorem toL_eq (a b:ByteArray):(a.toList==b.toList)=decide (a=b):=by
 rw[Lib.toList_data,Lib.toList_data,Bool.eq_iff_iff];simp only[beq_iff_eq,decide_eq_true_eq];constructor
 ·intro h;cases a;cases b;simp at h;rw[h]
 ·intro h;rw[h]
end
def okV (c:UInt8):Bool:=decide (32≤c.toNat) && !(c==127)
theorem validB_eq (s:ByteArray):validB s.data.toList=(decide (s.size≤1024)&&s.data.toList.all okV):=by
 unfold validB;rw[size_lst];rfl
def idxA (l:List At) (n:ByteArray):Int:=if hasN (l.map (·.name)) n then (l.findIdx fun a=>decide (a.name=n):Nat) else -1
end Go.Bd
namespace Go.Proofs.YtkdknllcllhpgaaGreatDoor
open Go.RowKit Go.Bd
theorem all_take_ok (f:UInt8→Bool) (s:ByteArray) (k:Nat) (h:k<s.size):(s.data.toList.take (k+1)).all f=((s.data.toList.take k).all f&&f s[k]):=by
 have e:s[k]=s.data.toList[k]'(by simpa using h):=by
  first|rfl|simp[ByteArray.getElem_eq_getElem_data]
 rw[e,List.take_succ_eq_append_getElem (by simpa using h),List.all_append];simp
theorem all_not (f:UInt8→Bool) (s:ByteArray) (k:Nat) (h:k<s.size) (hf:f s[k]=false):s.data.toList.all f=false:=by
 have e:s[k]=s.data.toList[k]'(by simpa using h):=by
  first|rfl|simp[ByteArray.getElem_eq_getElem_data]
 rw[Bool.eq_false_iff];intro hA;rw[List.all_eq_true] at hA;have:=hA s[k] (by rw[e];exact List.getElem_mem _)
 rw[hf] at this;cases this
theorem valid_any (s:ByteArray) (w:World) (hs:s.size≤1000000000000):Calls Tryz.prog 64 #[.string s] w fun e w'=>e=.returned (.bool (validB s.data.toList))∧w=w':=by
 have HB:=Lib.hid (validB_eq s)
 go_enter Tryz.func64,Tryz.ntmps64
 go_wp2_with fail
 ·go_ret
  refine⟨ret_bool ?_,rfl⟩;rw[HB.out,decide_eq_false (by omega)];rfl
 ·have hl:s.size≤1024:=by omega
  go_loopg [9] s.size (fun gk i wr=>wr=w∧∃k:Nat,k+gk=s.size∧i=.int .i64 k∧Hid ((s.data.toList.take k).all okV=true))
  case atStart=>exact⟨rfl,0,by omega,rfl,Lib.hid rfl⟩
  case round =>
   obtain⟨rfl,k,hk,rfl,HA⟩:=hrel
   by_cases hlt:k<s.size
   ·by_cases h1:s[k].toNat<32
    ·have hn:Hid (okV s[k]=false):=Lib.hid (by unfold okV;rw[decide_eq_false (by omega)];rfl)
     go_wp2_with fail
     go_ret
     refine⟨ret_bool ?_,rfl⟩;rw[HB.out,all_not okV s k hlt hn.out,Bool.and_false]
    ·by_cases h2:s[k].toNat=127
     ·have hn:Hid (okV s[k]=false):=Lib.hid (by unfold okV;rw[u8_eq];simp[h2])
      go_wp2_with fail
      go_ret
      refine⟨ret_bool ?_,rfl⟩;rw[HB.out,all_not okV s k hlt hn.out,Bool.and_false]
     ·have h2i:((s[k].toNat:Int)==127)=false:=by rw[beq_eq_false_iff_ne];omega
      have hn:Hid (okV s[k]=true):=Lib.hid (by unfold okV;rw[u8_eq,decide_eq_true (by omega)];simp[h2])
      go_wp2_with fail
      go_roundg (gk-1)
      case measure=>omega
      case rel=>exact⟨rfl,k+1,by omega,by go_num,Lib.hid (by rw[all_take_ok okV s k hlt,HA.out,hn.out];rfl)⟩
   ·obtain rfl:k=s.size:=by omega
    go_wp2_with fail
    go_ret
    refine⟨ret_bool ?_,rfl⟩;have:=HA.out
    rw[List.take_of_length_le (by rw[size_lst];exact Nat.le_refl _)] at this;rw[HB.out,this,decide_eq_true hl];rfl
theorem named_any (n:ByteArray) (w:World):Calls Tryz.prog 43 #[.string n] w fun e w'=>e=.returned (.func (.func 65) #[] #[.pointer (some ⟨w.heap.size,0,none⟩)])∧w'=w.alloc (.cells #[.string n] 9):=by
 go_enter Tryz.func43,Tryz.ntmps43
 go_wp2
 go_ret
 exact⟨rfl,rfl⟩
theorem named1_any {w:World}{g:Nat}{n:ByteArray} (hg:Holds w g 9 #[.string n]) (a b:ByteArray) :
  Calls Tryz.prog 65 #[.agg #[.string a,.string b],.pointer (some ⟨g,0,none⟩)] w fun e w'=>e=.returned (.bool (decide (a=n)))∧w'=w.alloc (.cells #[.string a,.string b] 47):=by
 have c0:=(hg.alloc (.cells #[.string a,.string b] 47)).cell 0;simp at c0;have HE:=Lib.hid (toL_eq a n);clear hg
 go_enter Tryz.func65,Tryz.ntmps65
 go_wp2
 go_ret
 exact⟨ret_bool HE.out,rfl⟩
theorem idx_hit {l:List At}{n:ByteArray}{k:Nat}{a:At} (hk:l[k]? = some a) (hn:a.name=n) (hno:∀b∈l.take k,b.name≠n):idxA l n=k:=by
 induction l generalizing k with
 | nil=>simp at hk
 | cons x l ih =>
  cases k with
  | zero =>
   cases hk
   simp[idxA,hasN,hn,List.findIdx_cons]
  | succ k =>
   have hx:x.name≠n:=hno x (by simp);have ih':=ih (k:=k) (by simpa using hk) (fun b hb=>hno b (by simp[hb]));unfold idxA at ih' ⊢;have h1:hasN (l.map (·.name)) n=true:=by
    by_cases h:hasN (l.map (·.name)) n=true
    ·exact h
    ·rw[if_neg h] at ih';omega
   rw[if_pos h1] at ih';have h2:hasN ((x::l).map (·.name)) n=true:=by
    unfold hasN at h1 ⊢;rw[List.map_cons,List.any_cons,h1,Bool.or_true]
   rw[if_pos h2,List.findIdx_cons];simp only[decide_eq_false hx,cond_false];omega
theorem idx_miss {l:List At}{n:ByteArray} (hno:∀b∈l,b.name≠n):idxA l n=-1:=by
 unfold idxA;rw[if_neg];intro h;unfold hasN at h;rw[List.any_eq_true] at h;obtain⟨x,hx,h1⟩:=h;obtain⟨b,hb,rfl⟩:=List.mem_map.1 hx;exact hno b hb (by simpa using h1)
theorem find_any {w:World}{S:Nat→Prop}{v:Value}{l:List At} (hl:AtS w S v l) (hS:∀k,S k→k<w.heap.size) (hn:l.length≤1000000000){g:Nat}{n:ByteArray} (hg:Holds w g 9 #[.string n]) :
  Calls Tryz.prog 42 #[v,.func (.func 65) #[] #[.pointer (some ⟨g,0,none⟩)]] w fun e w'=>e=.returned (.int .i64 (idxA l n))∧Below w.heap.size w w':=by
 obtain⟨A,c,rfl,hc,h1⟩:=hl;rw[List.length_map] at hc ⊢;obtain⟨nl,hnl⟩:∃nl,l.length=nl:=⟨_,rfl⟩;rw[hnl] at hc hn ⊢;have HN:=Lib.hid hnl;have H1:=Lib.hid h1;have HS:=Lib.hid hS;have HG:=Lib.hid hg;clear h1 hS hnl hg
 go_enter Tryz.func42,Tryz.ntmps42
 go_wp2_with fail
 go_loopg [9] nl (fun q i wr=>∃k:Nat,k+q=nl∧i=.int .i64 k∧Hid (Below w.heap.size w wr∧∀b∈l.take k,b.name≠n))
 case atStart=>exact⟨0,by omega,rfl,Lib.hid ⟨Below.refl _ _,fun b hb=>by simp at hb⟩⟩
 case round =>
  obtain⟨k,hk,rfl,HR⟩:=hrel
  by_cases hlt:k<nl
  ·obtain⟨a,ha⟩:∃a,l[k]? = some a:=⟨_,List.getElem?_eq_getElem (by rw[HN.out];exact hlt)⟩;obtain⟨b,off,rfl,hSb,q0,q1⟩:=H1.out k (atP a) (by rw[List.getElem?_map,ha];rfl);unfold atP at q0 q1;dsimp only at q0 q1;have r0:=(HR.out.1.cell (p:=⟨b,off+k*2,none⟩) (HS.out b hSb)).trans q0;have r1:=(HR.out.1.cell (p:=⟨b,off+k*2+1,none⟩) (HS.out b hSb)).trans q1;have HA:=Lib.hid ha;clear q0 q1 ha hSb;have hgg:=HG.out.below HR.out.1 HG.out.lt;have hX:∀W,Below wr.heap.size wr W→Calls Tryz.prog 65 #[.agg #[.string a.name,.string a.value],.pointer (some ⟨g,0,none⟩)] W fun e w'=>e=.returned (.bool (decide (a.name=n)))∧Below wr.heap.size wr w':=fun W hW=>(named1_any (hgg.below hW hgg.lt) a.name a.value).mono fun e w' h=>⟨h.1,by rw[h.2];exact hW.alloc hW.size _⟩
   have HX:=Lib.hid hX;clear hX hgg
   by_cases heq:a.name=n
   ·rw[decide_eq_true heq] at HX;have HQ:=Lib.hid heq;clear heq
    go_wp2_with (go_at_call 65;refine (HX.out _ ((Below.refl _ _).alloc (Nat.le_refl _) _)).mono ?_;rintro e w2 ⟨rfl,hb2⟩)
    go_ret
    rw[idx_hit HA.out HQ.out HR.out.2];exact⟨rfl,HR.out.1.trans (hb2.mono HR.out.1.size)⟩
   ·rw[decide_eq_false heq] at HX
    go_wp2_with (go_at_call 65;refine (HX.out _ ((Below.refl _ _).alloc (Nat.le_refl _) _)).mono ?_;rintro e w2 ⟨rfl,hb2⟩)
    go_roundg (gk-1)
    case measure=>omega
    case rel=>exact⟨k+1,by omega,by go_num,Lib.hid ⟨HR.out.1.trans (hb2.mono HR.out.1.size),fun b hb=>by
     rw[List.take_add_one,HA.out] at hb
     rcases List.mem_append.1 hb with h|h
     ·exact HR.out.2 b h
     ·rw[Option.toList_some,List.mem_singleton] at h;rw[h];exact heq⟩⟩
  ·obtain rfl:k=nl:=by omega
   go_wp2_with fail
   go_ret
   have hno:=HR.out.2;rw[List.take_of_length_le (by rw[HN.out];exact Nat.le_refl _)] at hno;rw[idx_miss hno];exact⟨rfl,HR.out.1⟩
theorem getA_idx {l:List At}{n:ByteArray}:(idxA l n=-1∧getA l n=none)∨∃(k:Nat) (a:At),idxA l n=k∧l[k]? = some a∧getA l n=some a.value∧a.name=n:=by
 induction l with
 | nil=>exact .inl ⟨rfl,rfl⟩
 | cons x l ih =>
  by_cases h:x.name=n
  ·right;refine⟨0,x,?_,rfl,by simp[getA,h],h⟩;exact idx_hit (l:=x::l) (k:=0) rfl h (fun b hb=>by simp at hb)
  ·have e:getA (x::l) n=getA l n:=by unfold getA;rw[List.find?_cons_of_neg (by simp[h])]
   rcases ih with ⟨h1,h2⟩|⟨k,a,h1,h2,h3,h4⟩
   ·left;refine⟨idx_miss fun b hb=>?_,e.trans h2⟩
    rcases List.mem_cons.1 hb with rfl|hb
    ·exact h
    ·intro hbn;unfold getA at h2;rw[Option.map_eq_none_iff,List.find?_eq_none] at h2;have:=h2 b hb
     simp[hbn] at this
   ·right;refine⟨k+1,a,?_,by simpa using h2,e.trans h3,h4⟩;unfold idxA at h1 ⊢;have h5:hasN (l.map (·.name)) n=true:=by
     by_cases h:hasN (l.map (·.name)) n=true
     ·exact h
     ·rw[if_neg h] at h1;omega
    have h6:hasN ((x::l).map (·.name)) n=true:=by
     unfold hasN at h5 ⊢;rw[List.map_cons,List.any_cons,h5,Bool.or_true]
    rw[if_pos h5] at h1;rw[if_pos h6,List.findIdx_cons];simp only[decide_eq_false h,cond_false];omega
def getV (o:Option ByteArray):Value:=match o with|some v=>.tuple #[.string v,.bool true]|none=>.tuple #[.string ⟨#[]⟩,.bool false]
theorem Get_any {w:World}{S:Nat→Prop}{v:Value}{l:List At} (hl:AtS w S v l) (hS:∀k,S k→k<w.heap.size) (hn:l.length≤1000000000) (n:ByteArray) :
  Calls Tryz.prog 27 #[v,.string n] w fun e w'=>e=.returned (getV (getA l n))∧Below w.heap.size w w':=by
 have hb1:=(Below.refl w.heap.size w).alloc (Nat.le_refl _) (.cells #[.string n] 9);have hF:=find_any (TwoS.below hl hb1) (fun k hk=>Nat.lt_of_lt_of_le (hS k hk) hb1.size) hn (Holds.new w 9 #[.string n]);obtain⟨A,c,rfl,hc,h1⟩:=hl;rw[List.length_map] at hc hF ⊢;have HF:=Lib.hid hF;clear hF
 rcases getA_idx (l:=l) (n:=n) with ⟨hi,hg⟩|⟨k,a,hi,ha,hg,hna⟩
 ·rw[hi] at HF;rw[hg];unfold getV;clear h1 hS
  go_enter Tryz.func27,Tryz.ntmps27
  go_wp2_with (first
   | (go_at_call 43;refine (named_any _ _).mono ?_;rintro e w2 ⟨rfl,rfl⟩)
   | (go_at_call 42;refine HF.out.mono ?_;rintro e w2 ⟨rfl,hb2⟩))
  go_ret2
  exact⟨rfl,hb1.trans (hb2.mono hb1.size)⟩
 ·rw[hi] at HF;rw[hg];unfold getV;obtain⟨b,off,rfl,hSb,q0,q1⟩:=h1 k (atP a) (by rw[List.getElem?_map,ha];rfl);unfold atP at q0 q1;dsimp only at q0 q1;have hkl:k<l.length:=(List.getElem?_eq_some_iff.1 ha).1;have hbw:=hS b hSb;clear h1 hS ha;have HQ:=Lib.hid q1;clear q0 q1
  go_enter Tryz.func27,Tryz.ntmps27
  go_wp2_with (first
   | (go_at_call 43;refine (named_any _ _).mono ?_;rintro e w2 ⟨rfl,rfl⟩)
   | (go_at_call 42;refine HF.out.mono ?_;rintro e w2 ⟨rfl,hb2⟩;have r1:=((hb1.trans (hb2.mono hb1.size)).cell (p:=⟨b,off+k*2+1,none⟩) hbw).trans HQ.out))
  go_ret2
  exact⟨rfl,hb1.trans (hb2.mono hb1.size)⟩
end Go.Proofs.YtkdknllcllhpgaaGreatDoor
namespace Go.Proofs.YtkdknllcllhpgaaGreatDoor
open Go.RowKit Go.Bd
theorem Find_any {w:World}{S:Nat→Prop}{v:Value}{l:List Sc} (hl:ScS w S v l) (hS:∀k,S k→k<w.heap.size) (hn:l.length≤1000000000) (n:ByteArray) :
  Calls Tryz.prog 25 #[v,.string n] w fun e w'=>e=.returned (getV (findS l n))∧Below w.heap.size w w':=by
 obtain⟨A,c,rfl,hc,h1⟩:=hl;rw[List.length_map] at hc ⊢;obtain⟨nl,hnl⟩:∃nl,l.length=nl:=⟨_,rfl⟩;rw[hnl] at hc hn ⊢;have HN:=Lib.hid hnl;have H1:=Lib.hid h1;have HS:=Lib.hid hS;clear h1 hS hnl
 go_enter Tryz.func25,Tryz.ntmps25
 go_wp2_with fail
 go_loopg [10] nl (fun q i wr=>∃k:Nat,k+q=nl∧i=.int .i64 k∧Hid (Below w.heap.size w wr∧∀b∈l.take k,b.name≠n))
 case atStart=>exact⟨0,by omega,rfl,Lib.hid ⟨Below.refl _ _,fun b hb=>by simp at hb⟩⟩
 case round =>
  obtain⟨k,hk,rfl,HR⟩:=hrel
  by_cases hlt:k<nl
  ·obtain⟨a,ha⟩:∃a,l[k]? = some a:=⟨_,List.getElem?_eq_getElem (by rw[HN.out];exact hlt)⟩;obtain⟨b,off,rfl,hSb,q0,q1⟩:=H1.out k (scP a) (by rw[List.getElem?_map,ha];rfl);unfold scP at q0 q1;dsimp only at q0 q1;have r0:=(HR.out.1.cell (p:=⟨b,off+k*2,none⟩) (HS.out b hSb)).trans q0;have r1:=(HR.out.1.cell (p:=⟨b,off+k*2+1,none⟩) (HS.out b hSb)).trans q1;have HA:=Lib.hid ha;clear q0 q1 ha hSb;obtain⟨an,han⟩:∃an,a.name=an:=⟨_,rfl⟩;obtain⟨tx,htx⟩:∃tx,a.text=tx:=⟨_,rfl⟩;rw[han] at r0;rw[htx] at r1;have HT:=hidH2 han htx;clear han htx
   by_cases heq:an=n
   ·have hE:(an.toList==n.toList)=true:=by rw[toL_eq,decide_eq_true heq]
    have HQ:=Lib.hid heq;clear heq
    go_wp2_with fail
    go_ret2
    have hf:findS l n=some tx:=by
     unfold findS;have h2:l.find? (fun s=>decide (s.name=n))=some a:=by
      rw[List.find?_eq_some_iff_append];refine⟨by simp[HT.out.1,HQ.out],l.take k,l.drop (k+1),?_,fun b hb=>by simpa using HR.out.2 b hb⟩;obtain⟨hk2,hk3⟩:=List.getElem?_eq_some_iff.1 HA.out;rw[←hk3,List.getElem_cons_drop,List.take_append_drop]
     rw[h2];exact congrArg some HT.out.2
    rw[hf];exact⟨rfl,HR.out.1.alloc HR.out.1.size _⟩
   ·have hE:(an.toList==n.toList)=false:=by rw[toL_eq,decide_eq_false heq]
    have HQ:=Lib.hid heq;clear heq
    go_wp2_with fail
    go_roundg (gk-1)
    case measure=>omega
    case rel=>exact⟨k+1,by omega,by go_num,Lib.hid ⟨HR.out.1.alloc HR.out.1.size _,fun b hb=>by
     rw[List.take_add_one,HA.out] at hb
     rcases List.mem_append.1 hb with h|h
     ·exact HR.out.2 b h
     ·rw[Option.toList_some,List.mem_singleton] at h;rw[h,HT.out.1];exact HQ.out⟩⟩
  ·obtain rfl:k=nl:=by omega
   go_wp2_with fail
   go_ret2
   have hno:=HR.out.2;rw[List.take_of_length_le (by rw[HN.out];exact Nat.le_refl _)] at hno;have hf:findS l n=none:=by
    unfold findS;rw[Option.map_eq_none_iff,List.find?_eq_none];exact fun b hb=>by simpa using hno b hb
   rw[hf];exact⟨rfl,HR.out.1⟩
theorem Below.drewA {w w':World} (h:Below w.heap.size w w') (n:Nat):Below w.heap.size w (w'.drewN n):=h.trans (((Chg.refl w' (fun _=>False)).drewN n).toBelow h.size (fun _ h=>h.elim))
theorem ltL (a b:ByteArray):Op.bytesLess a.toList b.toList=decide (a.data.toList<b.data.toList):=by
 rw[Lib.toList_data,Lib.toList_data,bytesLess_eq]
def someB (l:List At) (k:Nat):Bool:=(l.take k).all atB&&risesB (l.take k)
theorem rises_snoc:∀(l:List At) (a b:At),risesB (l++[a,b])=(risesB (l++[a])&&decide (a.name.data.toList<b.name.data.toList))
 | [],a,b=>by simp[risesB]
 | [x],a,b=>by simp[risesB]
 | x::y::l,a,b=>by
  have ih:=rises_snoc (y::l) a b
  show (decide (x.name.data.toList<y.name.data.toList)&&risesB ((y::l)++[a,b]))=((decide (x.name.data.toList<y.name.data.toList)&&risesB ((y::l)++[a]))&&_)
  rw[ih,Bool.and_assoc]
theorem rises_left:∀{l m:List At},risesB (l++m)=true→risesB l=true
 | [],_,_=>rfl
 | [_],_,_=>rfl
 | x::y::l,m,h=>by
  have h':(decide (x.name.data.toList<y.name.data.toList)&&risesB ((y::l)++m))=true:=h;rw[Bool.and_eq_true] at h'
  show (decide (x.name.data.toList<y.name.data.toList)&&risesB (y::l))=true
  rw[h'.1,rises_left h'.2];rfl
theorem check_all {l:List At}{k:Nat} (hk:someB l k=false):checkB l=false:=by
 unfold checkB;rw[Bool.eq_false_iff];intro h;rw[Bool.and_eq_true,Bool.and_eq_true] at h;have h1:(l.take k).all atB=true:=by
  rw[List.all_eq_true] at h ⊢;exact fun x hx=>h.1.2 x (List.mem_of_mem_take hx)
 have h2:risesB (l.take k)=true:=rises_left (m:=l.drop k) (by rw[List.take_append_drop];exact h.2);unfold someB at hk;rw[h1,h2] at hk;cases hk
theorem some_bad {l:List At}{k:Nat}{a:At} (h:l[k]? = some a) (ha:atB a=false):someB l (k+1)=false:=by
 unfold someB;rw[List.take_add_one,h,List.all_append];simp[ha]
theorem some_one {l:List At}{a:At} (h:l[0]? = some a):someB l 1=atB a:=by
 cases l with
 | nil=>simp at h
 | cons x l=>cases h;simp[someB,risesB]
theorem some_next {l:List At}{k:Nat}{a b:At} (ha:l[k]? = some a) (hb:l[k+1]? = some b) (hs:someB l (k+1)=true):someB l (k+2)=(atB b&&decide (a.name.data.toList<b.name.data.toList)):=by
 unfold someB at hs ⊢;have e1:l.take (k+1)=l.take k++[a]:=by rw[List.take_add_one,ha];rfl
 have e2:l.take (k+2)=l.take k++[a,b]:=by rw[List.take_add_one,hb,e1];simp
 rw[e1] at hs;rw[e2,rises_snoc];rw[Bool.and_eq_true] at hs;rw[hs.2,Bool.true_and];have h3:(l.take k++[a,b]).all atB=atB b:=by
  have h4:=hs.1;rw[List.all_append] at h4 ⊢;rw[Bool.and_eq_true] at h4;rw[h4.1];have h5:=h4.2;simp only[List.all_cons,List.all_nil,Bool.and_true] at h5 ⊢;rw[h5];simp
 rw[h3]
theorem Check_any {w:World}{S:Nat→Prop}{v:Value}{l:List At} (hl:AtS w S v l) (hS:∀k,S k→k<w.heap.size) (hn:l.length≤1000000000) (hz:∀a∈l,a.name.size≤100000∧a.value.size≤100000) :
  Calls Tryz.prog 41 #[v] w fun e w'=>e=.returned (.bool (checkB l))∧Below w.heap.size w w':=by
 obtain⟨A,c,rfl,hc,h1⟩:=hl;rw[List.length_map] at hc ⊢;obtain⟨nl,hnl⟩:∃nl,l.length=nl:=⟨_,rfl⟩;rw[hnl] at hc hn ⊢;have HN:=Lib.hid hnl;have H1:=Lib.hid h1;have HS:=Lib.hid hS;have HZ:=Lib.hid hz;clear h1 hS hnl hz
 by_cases hbig:64<nl
 ·have hb2:¬(nl:Int)≤64:=by omega
  have hb3:(64:Int)<nl:=by omega
  go_enter Tryz.func41,Tryz.ntmps41
  go_wp2_with fail
  go_ret
  refine⟨ret_bool ?_,Below.refl _ _⟩;unfold checkB;rw[HN.out,decide_eq_false (by omega)];rfl
 have hb2:¬(64:Int)<nl:=by omega
 go_enter Tryz.func41,Tryz.ntmps41
 go_wp2_with fail
 go_loopg [10] nl (fun q i wr=>∃k:Nat,k+q=nl∧i=.int .i64 k∧Hid (Below w.heap.size w wr∧someB l k=true))
 case atStart=>exact⟨0,by omega,rfl,Lib.hid ⟨Below.refl _ _,rfl⟩⟩
 case round =>
  obtain⟨k,hk,rfl,HR⟩:=hrel
  by_cases hlt:k<nl
  ·obtain⟨a,ha⟩:∃a,l[k]? = some a:=⟨_,List.getElem?_eq_getElem (by rw[HN.out];exact hlt)⟩;obtain⟨b,off,rfl,hSb,q0,q1⟩:=H1.out k (atP a) (by rw[List.getElem?_map,ha];rfl);unfold atP at q0 q1;dsimp only at q0 q1;have r0:=(HR.out.1.cell (p:=⟨b,off+k*2,none⟩) (HS.out b hSb)).trans q0;have r1:=(HR.out.1.cell (p:=⟨b,off+k*2+1,none⟩) (HS.out b hSb)).trans q1;have hza:=HZ.out a (List.mem_of_getElem? ha);have hbw:b<wr.heap.size:=Nat.lt_of_lt_of_le (HS.out b hSb) HR.out.1.size;have cn:=fun W=>name_any a.name W (by have:=hza.1;omega)
   have cv:=fun W=>valid_any a.value W (by omega)
   have hat:atB a=(nameB a.name.data.toList&&validB a.value.data.toList):=rfl;obtain⟨an,han⟩:∃an,a.name=an:=⟨_,rfl⟩;obtain⟨tx,htx⟩:∃tx,a.value=tx:=⟨_,rfl⟩;rw[han] at r0 cn hat;rw[htx] at r1 cv hat;obtain⟨bn,hbn⟩:∃bn,nameB an.data.toList=bn:=⟨_,rfl⟩;obtain⟨bv,hbv⟩:∃bv,validB tx.data.toList=bv:=⟨_,rfl⟩;rw[hbn] at cn hat;rw[hbv] at cv hat;have HA:=hidH4 ha han htx hat;have HC:=hidH2 cn cv;clear q0 q1 ha hSb han htx hbn hbv hza hat cn cv;cases bn with
   | false =>
    go_wp2_with (first
     | (go_at_call 63;refine (HC.out.1 _).mono ?_;rintro e w2 ⟨rfl,rfl⟩)
     | (go_at_call 64;refine (HC.out.2 _).mono ?_;rintro e w2 ⟨rfl,rfl⟩))
    go_ret
    exact⟨ret_bool (check_all (some_bad HA.out.1 HA.out.2.2.2)).symm,HR.out.1.alloc HR.out.1.size _⟩
   | true =>
    cases bv with
    | false =>
     go_wp2_with (first
      | (go_at_call 63;refine (HC.out.1 _).mono ?_;rintro e w2 ⟨rfl,rfl⟩)
      | (go_at_call 64;refine (HC.out.2 _).mono ?_;rintro e w2 ⟨rfl,rfl⟩))
     go_ret
     exact⟨ret_bool (check_all (some_bad HA.out.1 HA.out.2.2.2)).symm,HR.out.1.alloc HR.out.1.size _⟩
    | true =>
     cases k with
     | zero =>
      rw[Nat.zero_mul,Nat.add_zero] at r0 r1;rw[show ((0:Nat):Int)=0 from rfl]
      go_wp2_with (first
       | (go_at_call 63;refine (HC.out.1 _).mono ?_;rintro e w2 ⟨rfl,rfl⟩)
       | (go_at_call 64;refine (HC.out.2 _).mono ?_;rintro e w2 ⟨rfl,rfl⟩))
      refine wp_region_held_drew (S:=(fun w'=>True)) (by kernel_rfl) ?_ (fun hHeld0=>?_)
      ·(try dsimp only)
       all_goals exact trivial
      refine tkH 0 25 ?_;refine tkH 1 26 ?_;refine tkH 2 27 ?_;refine wpAnyH_take (i:=3) (oi:=⟨some 28,_,_,_,_,_⟩) (v:=undef) rfl (by kernel_rfl) (by kernel_rfl) (by kernel_rfl) (fun _ _ _ h=>h) (Or.inr ⟨by kernel_rfl,rfl⟩) (by assumption) ?_
      (try go_frame)
      refine wpAnyH_take (i:=4) (oi:=⟨some 29,_,_,_,_,_⟩) (v:=undef) rfl (by kernel_rfl) (by kernel_rfl) (by kernel_rfl) (fun _ _ _ h=>h) (Or.inr ⟨by kernel_rfl,rfl⟩) (by assumption) ?_
      (try go_frame)
      refine wpAnyH_take (i:=5) (oi:=⟨some 30,_,_,_,_,_⟩) (v:=undef) rfl (by kernel_rfl) (by kernel_rfl) (by kernel_rfl) (fun _ _ _ h=>h) (Or.inr ⟨by kernel_rfl,rfl⟩) (by assumption) ?_
      (try go_frame)
      refine wpAnyH_take (i:=6) (oi:=⟨some 31,_,_,_,_,_⟩) (v:=undef) rfl (by kernel_rfl) (by kernel_rfl) (by kernel_rfl) (fun _ _ _ h=>h) (Or.inr ⟨by kernel_rfl,rfl⟩) (by assumption) ?_
      (try go_frame)
      refine wpAnyH_take (i:=7) (oi:=⟨some 32,_,_,_,_,_⟩) (v:=undef) rfl (by kernel_rfl) (by kernel_rfl) (by kernel_rfl) (fun _ _ _ h=>h) (Or.inr ⟨by kernel_rfl,rfl⟩) (by assumption) ?_
      (try go_frame)
      refine wpAnyH_take (i:=8) (oi:=⟨some 33,_,_,_,_,_⟩) (v:=undef) rfl (by kernel_rfl) (by kernel_rfl) (by kernel_rfl) (fun _ _ _ h=>h) (Or.inr ⟨by kernel_rfl,rfl⟩) (by assumption) ?_
      (try go_frame)
      refine wpAnyH_take (i:=9) (oi:=⟨some 34,_,_,_,_,_⟩) (v:=undef) rfl (by kernel_rfl) (by kernel_rfl) (by kernel_rfl) (fun _ _ _ h=>h) (Or.inr ⟨by kernel_rfl,rfl⟩) (by assumption) ?_
      (try go_frame)
      refine wpAnyH_take (i:=10) (oi:=⟨some 35,_,_,_,_,_⟩) (v:=undef) rfl (by kernel_rfl) (by kernel_rfl) (by kernel_rfl) (fun _ _ _ h=>h) (Or.inr ⟨by kernel_rfl,rfl⟩) (by assumption) ?_
      (try go_frame)
      refine wpAnyH_take (i:=11) (oi:=⟨some 36,_,_,_,_,_⟩) (v:=undef) rfl (by kernel_rfl) (by kernel_rfl) (by kernel_rfl) (fun _ _ _ h=>h) (Or.inr ⟨by kernel_rfl,rfl⟩) (by assumption) ?_
      (try go_frame)
      refine tkH 12 37 ?_;refine wpAnyH_done (by kernel_rfl) ?_ _;go_wp2
      go_roundg (gk-1)
      case measure=>omega
      case rel=>exact⟨1,by omega,by go_num,Lib.hid ⟨by first|exact (HR.out.1.alloc HR.out.1.size _)|exact Below.drewA (HR.out.1.alloc HR.out.1.size _) 1,(some_one HA.out.1).trans HA.out.2.2.2⟩⟩
     | succ j =>
      obtain⟨p,hp⟩:∃p,l[j]? = some p:=⟨_,List.getElem?_eq_getElem (by rw[HN.out];omega)⟩;obtain⟨b',off',hbb,hSb',p0,p1⟩:=H1.out j (atP p) (by rw[List.getElem?_map,hp];rfl);injection hbb with hbb
      injection hbb with hb1 hb2'
      subst hb1 hb2';unfold atP at p0 p1;dsimp only at p0 p1;have s0:=(HR.out.1.cell (p:=⟨b,off+j*2,none⟩) (HS.out b hSb')).trans p0;obtain⟨pn,hpn⟩:∃pn,p.name=pn:=⟨_,rfl⟩;rw[hpn] at s0;have HP:=hidH2 hp hpn;clear p0 p1 hp hpn hSb';have e1:IntKind.i64.wrap ((j:Int)+1-1)=(j:Int):=by rw[show (j:Int)+1-1=j by omega];exact IntWalk.i64_in _ (by omega)
      have e2:((j:Int)+1-1)=(j:Int):=by omega
      have e3:IntKind.i64.wrap (j:Int)=(j:Int):=IntWalk.i64_in _ (by omega);have e4:¬((nl:Int)≤(j:Int)):=by omega
      have e5:(0:Int)<(j:Int)+1:=by omega
      have e6:(j:Int)<(nl:Int):=by omega
      have hlt2:=ltL pn an;obtain⟨bl,hbl⟩:∃bl,decide (pn.data.toList<an.data.toList)=bl:=⟨_,rfl⟩;rw[hbl] at hlt2;have HL:=Lib.hid hbl;clear hbl;cases bl with
      | false =>
       go_wp2_with (first
        | (go_at_call 63;refine (HC.out.1 _).mono ?_;rintro e w2 ⟨rfl,rfl⟩)
        | (go_at_call 64;refine (HC.out.2 _).mono ?_;rintro e w2 ⟨rfl,rfl⟩))
       go_quiet (fail)
       go_wp2
       go_ret
       refine⟨ret_bool (check_all (k:=j+2) ?_).symm,Below.drewA (HR.out.1.alloc HR.out.1.size _) _⟩;rw[some_next HP.out.1 HA.out.1 HR.out.2,HP.out.2,HA.out.2.1,HL.out,Bool.and_false]
      | true =>
       go_wp2_with (first
        | (go_at_call 63;refine (HC.out.1 _).mono ?_;rintro e w2 ⟨rfl,rfl⟩)
        | (go_at_call 64;refine (HC.out.2 _).mono ?_;rintro e w2 ⟨rfl,rfl⟩))
       go_quiet (fail)
       go_wp2
       go_roundg (gk-1)
       case measure=>omega
       case rel=>exact⟨j+2,by omega,by go_num,Lib.hid ⟨Below.drewA (HR.out.1.alloc HR.out.1.size _) _,by
        rw[some_next HP.out.1 HA.out.1 HR.out.2,HP.out.2,HA.out.2.1,HL.out,Bool.and_true];exact HA.out.2.2.2⟩⟩
  ·obtain rfl:k=nl:=by omega
   go_wp2_with fail
   go_ret
   refine⟨ret_bool ?_,HR.out.1⟩;have h:=HR.out.2;unfold someB at h;rw[List.take_of_length_le (by rw[HN.out];exact Nat.le_refl _)] at h;unfold checkB;rw[HN.out,decide_eq_true (by omega),Bool.true_and,h]
theorem allowed_any {w:World}{S:Nat→Prop}{v:Value}{l:List At} (hl:AtS w S v l) (hS:∀k,S k→k<w.heap.size) (hn:l.length≤1000000000) (hz:∀a∈l,a.name.size≤100000∧a.value.size≤100000) :
  Calls Tryz.prog 26 #[v] w fun e w'=>e=.returned (if checkB l then v else .slice none 0 0)∧Below w.heap.size w w':=by
 have hC:=Check_any hl hS hn hz;obtain⟨A,c,rfl,hc,h1⟩:=hl;rw[List.length_map] at hC ⊢;obtain⟨nl,hnl⟩:∃nl,l.length=nl:=⟨_,rfl⟩;obtain⟨b,hb⟩:∃b,checkB l=b:=⟨_,rfl⟩;rw[hnl,hb] at hC;rw[hnl,hb];have HC:=Lib.hid hC;clear hC h1 hS hz hb hnl hn hc;cases b
 all_goals
  go_enter Tryz.func26,Tryz.ntmps26
  go_wp2_with (go_at_call 41;refine HC.out.mono ?_;rintro e w2 ⟨rfl,hb⟩)
  go_ret
  exact⟨rfl,hb⟩
theorem diagA_info:(Tryz.prog.info? 55).map (fun i=>(i.zero,i.size,i.bytes))=some (some (.agg #[.string ⟨#[]⟩,.int .i64 0,.int .i64 0,.string ⟨#[]⟩]),4,48):=by kernel_rfl
theorem a_tell {w:World}{κ:Nat→Nat}{rb wm:Nat}{sv:Value}{v:Rv}{st:Ast}{stk:Stk} (h:ARd w κ rb wm sv v st stk) (f t:ByteArray) (no:Int) (k:Nat) (txt:ByteArray) (hl:st.diags.length≤1000000000) :
  Calls Tryz.prog 108 #[.pointer (some ⟨rb,0,none⟩),.agg #[.string f,.int .i64 no,.string t],.int .i64 (k:Int),.string txt] w fun e w'=>e=.returned (.tuple #[])∧∃κ' dv',ARd w' κ' rb wm sv { v with dv:=dv' } (st.tell ⟨f,no,t⟩ k txt) stk∧Mv w w' κ κ':=by
 obtain⟨ds,hds⟩:∃ds,st.diags=ds:=⟨_,rfl⟩;have hdg:=h.diags;rw[hds] at hdg hl;obtain⟨A,c,hdv,hlc⟩:=own_rowL hdg;obtain⟨i0,hi0,hz0,hz1,hz2⟩:=info_parts diagA_info;have hrl:=h.hold.lt;have hB1:=(Below.refl w.heap.size w).alloc (Nat.le_refl _) (.cells #[.string f,.int .i64 no,.string t] 163);have h1:=h.below hB1;have hX:=Holds.new w 163 #[.string f,.int .i64 no,.string t];have hM0:Mv w (w.alloc (.cells #[.string f,.int .i64 no,.string t] 163)) κ κ:=Mv.below hB1 κ;have hsz:(w.alloc (.cells #[.string f,.int .i64 no,.string t] 163)).heap.size=w.heap.size+1:=by simp
 obtain⟨n,hn⟩:∃n,w.heap.size=n:=⟨_,rfl⟩;have hlt0:=h.lt;rw[hn] at hX hsz hlt0;obtain⟨W1,hW1⟩:∃W1,w.alloc (.cells #[.string f,.int .i64 no,.string t] 163)=W1:=⟨_,rfl⟩;rw[hW1] at h1 hX hM0 hsz;have hdg1:=h1.diags;rw[hds,hdv] at hdg1;have d0:=hX.cell 0;have d1:=hX.cell 1;have d3:=h1.hold.cell 9;have f3:=h1.hold.free 9;rw[hdv] at d3;simp at d0 d1 d3;have hb1:rb<W1.heap.size:=h1.hold.lt;have hbx:n<W1.heap.size:=by omega
 have hkr:(Value.slice A ds.length c).ownBlock≠some rb:=fun e=>by have:=h.kG rb (by rw[hdv];exact e);have:=h.kR;omega
 have hkn:(Value.slice A ds.length c).ownBlock≠some n:=fun e=>by have h9:=h.kG n (by rw[hdv];exact e);have:=hlt0 n (by omega);omega
 have hrn:rb≠n:=by omega
 have HR:=hidH5 h1 hM0 hdv hds hdg1;have HZ:=hidH4 hi0 hz0 hz1 hz2;have HW1:=Lib.hid hW1;have HN:=Lib.hid hn;have HX:=Lib.hid hX;have hnW:w.heap.size≤n:=Nat.le_of_eq hn;have HSZ:=hidH2 hsz hlt0;clear h h1 hM0 hi0 hz0 hz1 hz2 hX hsz hdv hds hdg hdg1 hB1 hlt0;have e0:(W1.alloc (.cells #[.string f,.int .i64 no,.int .i64 (k:Int),.string txt] 55)).cell? ⟨n,0,none⟩=some (.string f):=by rw[World.cell?_alloc_lt _ _ _ hbx];exact d0
 have e1:(W1.alloc (.cells #[.string f,.int .i64 no,.int .i64 (k:Int),.string txt] 55)).cell? ⟨n,1,none⟩=some (.int .i64 no):=by rw[World.cell?_alloc_lt _ _ _ hbx];exact d1
 have e3:(W1.alloc (.cells #[.string f,.int .i64 no,.int .i64 (k:Int),.string txt] 55)).cell? ⟨rb,9,none⟩=some (.slice A ds.length c):=by rw[World.cell?_alloc_lt _ _ _ hb1];exact d3
 go_enter Tryz.func108,Tryz.ntmps108
 go_wp2
 (try rw[hW1])
 (try rw[hn])
 clear hW1 hn;refine wp_region_held_drew (S:=(fun w'=>w'.cell? ⟨n,0,none⟩=some (.string f)∧w'.cell? ⟨n,1,none⟩=some (.int .i64 no))) (by kernel_rfl) ?_ (fun hHeld0=>?_)
 ·(try dsimp only)
  first|exact⟨d0,d1⟩|exact⟨e0,e1⟩|exact⟨g0,g1⟩|exact⟨k0,k1⟩
 refine tkH 0 8 ?_;refine tkH 1 9 ?_;refine tkH 2 10 ?_;refine tkH 3 11 ?_;refine tkH 5 13 ?_;refine tkH 6 14 ?_;refine tkH 7 15 ?_;refine tkH 8 16 ?_;refine tkH 9 17 ?_;refine tkH 10 18 ?_;refine tkH 11 19 ?_;refine rdyH [4,12] ?_;refine AllReadyH.cons (o:=⟨some 12,_,_,_,_,_⟩) rfl (fun K hK=>?_) ?_
 ·skip
  go_simp;refine hK.out _ _ ?_ (fun hHeld1=>?_)
  ·(try dsimp only)
   first|exact⟨d0,d1⟩|exact⟨e0,e1⟩|exact⟨g0,g1⟩|exact⟨k0,k1⟩
  clear hK K hHeld0
  (try go_frame)
  refine rdyH [12] ?_;refine AllReadyH.cons (o:=⟨some 20,_,_,_,_,_⟩) rfl (fun K hK=>?_) AllReadyH.nil;go_simp;refine hK.out _ _ ?_ (fun hHeld2=>?_)
  ·(try dsimp only)
   first|exact⟨d0,d1⟩|exact⟨e0,e1⟩|exact⟨g0,g1⟩|exact⟨k0,k1⟩
  clear hK K hHeld1
  (try go_frame)
  refine rdyH [13] ?_;refine AllReadyH.cons (o:=⟨some 21,_,_,_,_,_⟩) rfl (fun K hK=>?_) AllReadyH.nil;refine step_append_lies _ (by rfl) _ _ _ (by rfl) 0 55 i0 _ 4 48 Tryz.underlying23 HZ.out.1 HZ.out.2.1 HZ.out.2.2.1 HZ.out.2.2.2 rfl (by omega) (.slice A ds.length c) ds.length (rowD ds) (by rfl) ((HR.out.2.2.2.2.alloc _).drew)
   ⟨W1.heap.size,0,none⟩ 1 1 [.string f,.int .i64 no,.int .i64 (k:Int),.string txt] (by rfl) (by rfl) (World.news_of_block (cs:=#[.string f,.int .i64 no,.int .i64 (k:Int),.string txt]) (t:=55) (fr:=(0,0)) (heap_alloc_new W1 _)) (by simp[Value.oneCell'])
   (by omega) (by unfold maxLen;omega) (by omega) (Nat.zero_le _) (W1.heap.size+1) (by simp) ?_
  intro g cap w2 ho2 hg2 hat2 hl2;have hC2:Chg W1 w2 (fun b=>(Value.slice A ds.length c).ownBlock=some b):=(((Chg.refl W1 _).alloc _).drew).trans (Chg.grown hg2) (fun _ _ h=>h.symm);have hgb:g≠rb:=fun e=>by
   rcases hat2 with h|h
   ·exact hkr (by rw[h,e])
   ·omega
  have hgn:g≠n:=fun e=>by
   rcases hat2 with h|h
   ·exact hkn (by rw[h,e])
   ·omega
  have hh2:=hC2.holds hkr HR.out.1.hold;have g0:=hC2.cell (p:=⟨n,0,none⟩) hkn d0;have g1:=hC2.cell (p:=⟨n,1,none⟩) hkn d1;have g3:=hC2.cell (p:=⟨rb,9,none⟩) hkr d3;have q3:=hh2.free 9;have k0:=cell_far (g:=rb) (i:=9) (j:=0) hrn (.slice (some ⟨g,0,none⟩) (ds.length+1) cap) g0;have k1:=cell_far (g:=rb) (i:=9) (j:=1) hrn (.slice (some ⟨g,0,none⟩) (ds.length+1) cap) g1;have HE:=hidH5 hC2 ho2 hat2 hh2 hl2;clear hC2 ho2 hat2 hh2 hg2 hl2;refine hK.out _ _ ?_ (fun hHeld3=>?_)
  ·(try dsimp only)
   first|exact⟨d0,d1⟩|exact⟨e0,e1⟩|exact⟨g0,g1⟩|exact⟨k0,k1⟩
  clear hK K hHeld2
  (try go_frame)
  refine tkH 14 22 ?_;refine tkH 15 23 ?_;refine rdyH [16] ?_;refine AllReadyH.cons rfl (fun K hK=>?_) AllReadyH.nil;go_simp;refine hK.out _ _ ?_ (fun hHeld4=>?_)
  ·(try dsimp only)
   first|exact⟨d0,d1⟩|exact⟨e0,e1⟩|exact⟨g0,g1⟩|exact⟨k0,k1⟩
  clear hK K hHeld3
  (try go_frame)
  refine wpAnyH_done (by kernel_rfl) ?_ _;go_wp2
  go_end0
  exact⟨rfl,_,_,tell_done HR.out.1 HR.out.2.2.1 HR.out.2.2.2.1 HE.out.1 HE.out.2.1 HE.out.2.2.1 HE.out.2.2.2.1 HE.out.2.2.2.2 hgb (d:=⟨f,no,k,txt⟩),HR.out.2.1.trans (tell_mv HR.out.1 HR.out.2.2.1 HR.out.2.2.2.1 HE.out.1 HE.out.2.2.1 HE.out.2.2.2.2)⟩
 refine AllReadyH.cons (o:=⟨some 20,_,_,_,_,_⟩) rfl (fun K hK=>?_) AllReadyH.nil;go_simp;refine hK.out _ _ ?_ (fun hHeld1=>?_)
 ·(try dsimp only)
  first|exact⟨d0,d1⟩|exact⟨e0,e1⟩|exact⟨g0,g1⟩|exact⟨k0,k1⟩
 clear hK K hHeld0
 (try go_frame)
 refine rdyH [4] ?_;refine AllReadyH.cons (o:=⟨some 12,_,_,_,_,_⟩) rfl (fun K hK=>?_) AllReadyH.nil;go_simp;refine hK.out _ _ ?_ (fun hHeld2=>?_)
 ·(try dsimp only)
  first|exact⟨d0,d1⟩|exact⟨e0,e1⟩|exact⟨g0,g1⟩|exact⟨k0,k1⟩
 clear hK K hHeld1
 (try go_frame)
 refine rdyH [13] ?_;refine AllReadyH.cons (o:=⟨some 21,_,_,_,_,_⟩) rfl (fun K hK=>?_) AllReadyH.nil;refine step_append_lies _ (by rfl) _ _ _ (by rfl) 0 55 i0 _ 4 48 Tryz.underlying23 HZ.out.1 HZ.out.2.1 HZ.out.2.2.1 HZ.out.2.2.2 rfl (by omega) (.slice A ds.length c) ds.length (rowD ds) (by rfl) ((HR.out.2.2.2.2.alloc _).drew)
  ⟨W1.heap.size,0,none⟩ 1 1 [.string f,.int .i64 no,.int .i64 (k:Int),.string txt] (by rfl) (by rfl) (World.news_of_block (cs:=#[.string f,.int .i64 no,.int .i64 (k:Int),.string txt]) (t:=55) (fr:=(0,0)) (heap_alloc_new W1 _)) (by simp[Value.oneCell'])
  (by omega) (by unfold maxLen;omega) (by omega) (Nat.zero_le _) (W1.heap.size+1) (by simp) ?_
 intro g cap w2 ho2 hg2 hat2 hl2;have hC2:Chg W1 w2 (fun b=>(Value.slice A ds.length c).ownBlock=some b):=(((Chg.refl W1 _).alloc _).drew).trans (Chg.grown hg2) (fun _ _ h=>h.symm);have hgb:g≠rb:=fun e=>by
  rcases hat2 with h|h
  ·exact hkr (by rw[h,e])
  ·omega
 have hgn:g≠n:=fun e=>by
  rcases hat2 with h|h
  ·exact hkn (by rw[h,e])
  ·omega
 have hh2:=hC2.holds hkr HR.out.1.hold;have g0:=hC2.cell (p:=⟨n,0,none⟩) hkn d0;have g1:=hC2.cell (p:=⟨n,1,none⟩) hkn d1;have g3:=hC2.cell (p:=⟨rb,9,none⟩) hkr d3;have q3:=hh2.free 9;have k0:=cell_far (g:=rb) (i:=9) (j:=0) hrn (.slice (some ⟨g,0,none⟩) (ds.length+1) cap) g0;have k1:=cell_far (g:=rb) (i:=9) (j:=1) hrn (.slice (some ⟨g,0,none⟩) (ds.length+1) cap) g1;have HE:=hidH5 hC2 ho2 hat2 hh2 hl2;clear hC2 ho2 hat2 hh2 hg2 hl2;refine hK.out _ _ ?_ (fun hHeld3=>?_)
 ·(try dsimp only)
  first|exact⟨d0,d1⟩|exact⟨e0,e1⟩|exact⟨g0,g1⟩|exact⟨k0,k1⟩
 clear hK K hHeld2
 (try go_frame)
 refine tkH 14 22 ?_;refine tkH 15 23 ?_;refine rdyH [16] ?_;refine AllReadyH.cons rfl (fun K hK=>?_) AllReadyH.nil;go_simp;refine hK.out _ _ ?_ (fun hHeld4=>?_)
 ·(try dsimp only)
  first|exact⟨d0,d1⟩|exact⟨e0,e1⟩|exact⟨g0,g1⟩|exact⟨k0,k1⟩
 clear hK K hHeld3
 (try go_frame)
 refine wpAnyH_done (by kernel_rfl) ?_ _;go_wp2
 go_end0
 exact⟨rfl,_,_,tell_done HR.out.1 HR.out.2.2.1 HR.out.2.2.2.1 HE.out.1 HE.out.2.1 HE.out.2.2.1 HE.out.2.2.2.1 HE.out.2.2.2.2 hgb (d:=⟨f,no,k,txt⟩),HR.out.2.1.trans (tell_mv HR.out.1 HR.out.2.2.1 HR.out.2.2.2.1 HE.out.1 HE.out.2.2.1 HE.out.2.2.2.2)⟩
end Go.Proofs.YtkdknllcllhpgaaGreatDoor
namespace Go.Bd
open Go.RowKit Go.Maps Go.WideMaps
theorem index_cut (c:UInt8):∀s:Bs,(Lib.index s [c]=-1∧cutB c s=none)∨∃k:Nat,Lib.index s [c]=k∧cutB c s=some (s.take k,s.drop (k+1))
 | []=>.inl ⟨rfl,rfl⟩
 | b::l=>by
  have e:Lib.index (b::l) [c]=if (c==b)=true then 0 else if Lib.index l [c] == -1 then -1 else Lib.index l [c]+1:=by
   show (if List.isPrefixOf [c] (b::l) then (0:Int) else _)=_
   simp[List.isPrefixOf]
  unfold cutB
  by_cases h:c=b
  ·right;refine⟨0,?_,?_⟩
   ·exact e.trans (if_pos (by simp[h]))
   ·rw[if_pos (by simp[h])];rfl
  ·have h1:¬(c==b)=true:=by simpa using h
   have h2:¬(b==c)=true:=by simpa using fun e=>h e.symm
   rw[if_neg h1] at e;rw[if_neg h2]
   rcases index_cut c l with ⟨h3,h4⟩|⟨k,h3,h4⟩
   ·left;rw[e,h3,h4];exact⟨by simp,rfl⟩
   ·right;refine⟨k+1,?_,?_⟩
    ·rw[e,h3,if_neg (by rw[beq_iff_eq];omega)];rfl
    ·rw[h4];rfl
theorem pre_eq (c:UInt8) (hc:c≠0) (s:Bs):Lib.hasPrefix s [c]=(s.headD 0==c):=by
 unfold Lib.hasPrefix;cases s with
 | nil =>
  show false=((0:UInt8)==c)
  rw[eq_comm,beq_eq_false_iff_ne];exact fun e=>hc e.symm
 | cons b l =>
  show ((c==b)&&List.isPrefixOf [] l)=(b==c)
  rw[Bool.eq_iff_iff];constructor
  ·intro h;rw[Bool.and_eq_true,beq_iff_eq] at h;exact beq_iff_eq.2 h.1.symm
  ·intro h;rw[beq_iff_eq] at h;subst h;simp[List.isPrefixOf]
theorem suf_eq (c:UInt8) (hc:c≠0) (s:Bs):Lib.hasSuffix s [c]=(s.getLastD 0==c):=by
 unfold Lib.hasSuffix;rw[Bool.eq_iff_iff,List.isSuffixOf_iff_suffix,beq_iff_eq]
 rcases List.eq_nil_or_concat s with h|⟨l,b,h⟩
 ·subst h;constructor
  ·intro h;have:=h.length_le;simp at this
  ·intro h;exact absurd h.symm hc
 ·subst h;rw[List.concat_eq_append,List.getLastD_concat];constructor
  ·rintro⟨t,ht⟩;have:=congrArg List.getLast? ht
   simp at this;exact this.symm
  ·rintro rfl;exact⟨l,rfl⟩
theorem trim_suf (c:UInt8) (s:Bs) (h:Lib.hasSuffix s [c]=true):Lib.trimSuffix s [c]=s.dropLast:=by
 unfold Lib.trimSuffix;rw[if_pos h,List.dropLast_eq_take];rfl
end Go.Bd
namespace Go.Proofs.YtkdknllcllhpgaaGreatDoor
open Go.RowKit Go.Bd
theorem set_under:Tryz.prog.underlying 91=some (.map 9 100):=by kernel_rfl
theorem set_zero (w:World):(zeroValue 100).run Tryz.prog w=.ok (.agg #[]) w:=by kernel_rfl
theorem results_tmp4 {fn:Func}{t u v x:Tmp} (h:fn.results=#[.tmp t,.tmp u,.tmp v,.tmp x]) (tmps:Array Value) (P:Program) (w:World) :
  (results fn tmps).run P w=.ok (.tuple #[tmps.getD t undef,tmps.getD u undef,tmps.getD v undef,tmps.getD x undef]) w:=by
 simp[results,h]
theorem set_look {w:World}{bm:Nat}{l:List ByteArray} (h:FsMap w Tryz.prog tTx bm (setFe l)) (n:ByteArray) (hn:n.size≤1000000000) :
  (Instr.lookup 91 (.map (some bm)) (.string n) true).run Tryz.prog w=.ok (.tuple #[.agg #[],.bool (hasN l n)]) w:=by
 rw[FsMap.lookz_ok h str_under set_under (set_zero w) (s:=n) (by unfold maxLen;omega),findF_set];cases hf:findF (setFe l) n with
 | none=>rfl
 | some e =>
  have:=List.mem_of_find?_eq_some hf
  unfold setFe at this;obtain⟨x,_,rfl⟩:=List.mem_map.1 this;rfl
theorem set_store {w:World}{bm:Nat}{l:List ByteArray} (h:FsMap w Tryz.prog tTx bm (setFe l)) (hu:Uniq (setFe l)) (n:ByteArray) (hn:n.size≤1000000000) (hl:l.length≤1000000000000) :
  ∃w',(Instr.mapUpdate 91 (.map (some bm)) (.string n) (.agg #[])).run Tryz.prog w=.ok () w'∧FsMap w' Tryz.prog tTx bm (setFe (putN l n))∧Chg w w' (fun b=>b=bm)∧w'.heap.size=w.heap.size∧Uniq (setFe (putN l n)):=by
 obtain⟨w',h1,h2,h3,h4⟩:=h.store hu str_under set_under (by rw[set_len];unfold maxLen;omega) ⟨n,.agg #[],[]⟩ (by show n.size≤_;unfold maxLen;omega);exact⟨w',h1,by rw[set_put];exact h2,h3,h4,by rw[set_put];exact hu.put _⟩
theorem a_ask {w:World}{κ:Nat→Nat}{rb wm:Nat}{sv:Value}{v:Rv}{st:Ast}{stk:Stk} (h:ARd w κ rb wm sv v st stk) (n:ByteArray) (hn:n.size≤1000000000) (ha:st.asked.length≤1000000000000) :
  Calls Tryz.prog 109 #[.pointer (some ⟨rb,0,none⟩),.string n] w fun e w'=>e=.returned (.tuple #[])∧ARd w' κ rb wm sv v (st.ask n) stk∧Mv w w' κ κ:=by
 have c5:=h.hold.cell 5;have c6:=h.hold.cell 6;simp at c5 c6;have hL:=set_look h.done n hn;have hB:=(Below.refl w.heap.size w).alloc (Nat.le_refl _) (.cells #[] 100);have h1:=h.below hB;have hrl:=h.hold.lt;have e6:=h1.hold.cell 6;simp at e6;obtain⟨w2,r2,m2,k2,z2,u2⟩:=set_store h1.asked h1.uA n hn ha;have hM:Rest (w.alloc (.cells #[] 100)) w2 κ 4 κ:=⟨k2.mono (fun k _ hk=>.inr (by rw[show k=v.am from hk];exact h.kA)),fun _ _=>rfl,fun k hk=>by rw[z2];exact h1.lt k hk⟩;have hh2:Holds w2 rb tAr #[sv,v.av,.map (some wm),v.ov,.int .i64 (st.count:Int),.map (some v.dm),.map (some v.am),.map (some v.bm),v.lv,v.dv,v.fv]:=k2.holds (fun e=>by have:=h.kA;have:=h.kR;rw[show rb=v.am from e] at this;omega) h1.hold;have HA:=hidH4 (h1.set_asked hM hh2 m2 u2) ((Mv.below hB κ).trans (hM.mv (by decide))) h1 (Mv.below hB κ);obtain⟨b,hb⟩:∃b,hasN st.done n=b:=⟨_,rfl⟩;rw[hb] at hL;have e:st.ask n=if b=true then st else { st with asked:=putN st.asked n }:=by unfold Ast.ask;rw[hb]
 rw[e];clear h h1 hM hh2 m2 u2 k2 hB hb e z2;cases b
 ·go_enter Tryz.func109,Tryz.ntmps109
  go_wp2
  go_end0
  exact⟨rfl,HA.out.1,HA.out.2.1⟩
 ·go_enter Tryz.func109,Tryz.ntmps109
  go_wp2
  go_end0
  exact⟨rfl,HA.out.2.2.1,HA.out.2.2.2⟩
end Go.Proofs.YtkdknllcllhpgaaGreatDoor
namespace Go.Bd
open Go.RowKit
end Go.Bd
namespace Go.Proofs.YtkdknllcllhpgaaGreatDoor
open Go.RowKit Go.Bd
section
variable {w:World} {p q r:Nat} {b:Bool} {v t:ByteArray}
end
end Go.Proofs.YtkdknllcllhpgaaGreatDoor
namespace Go.Bd
open Go.RowKit
theorem run_append_nil {P:Program}{w:World} (base:Nat) (t ty e:TypeId) (i:TypeInfo) (size:Nat) (ht:P.underlying t=some (.slice e)) (hi:P.info? e=some i)
  (v:Value) (n:Nat) (xs:List Value) (hown:w.ownsRow base e size v n xs) (c:Nat) :
  (Builtin.append_ #[t,t] ty #[v,.slice none 0 c]).run P w=.ok v w:=by
 rcases hown.2 with ⟨rfl,rfl⟩|⟨g,cap,cur,rfl,_,_,hnc,_⟩
 ·simp[Builtin.append_,run_underlying ht,sizeOf,typeInfo,hi,Builtin.lenOf,Builtin.firstCells]
 ·simp[Builtin.append_,run_underlying ht,sizeOf,typeInfo,hi,Builtin.lenOf,Builtin.firstCells,hnc,storeCells]
theorem run_append_all {P:Program} (w:World) (t ty:TypeId) (base:Nat) (e:TypeId) (i:TypeInfo) (z:Value) (size bytes:Nat) (ht:P.underlying t=some (.slice e)) (hi:P.info? e=some i) (hz:i.zero=some z)
  (hsize:i.size=size) (hby:i.bytes=bytes) (hzs:z.cells.size=size) (hsz:0<size)
  (v:Value) (n:Nat) (xs:List Value) (hown:w.ownsRow base e size v n xs)
  (A:Option Addr) (m c:Nat) (news:List Value) (hl:news.length=m*size) (hnews:∀j u,news[j]? = some u→∃ad,A=some ad∧w.cell? (ad.add j)=some u) (h1:∀u∈news,u.oneCell'=true)
  (h63:n+m≤maxLen) (hbytes:(n+m)*bytes≤140737488355328) (hbase:base≤w.heap.size) :
  ∃A' cap w',(Builtin.append_ #[t,t] ty #[v,.slice A m c]).run P w=.ok (.slice A' (n+m) cap) w' ∧
   w'.ownsRow base e size (.slice A' (n+m) cap) (n+m) (xs++news)∧w.grownBy w' v.ownBlock∧∀k,(Value.slice A' (n+m) cap).ownBlock=some k→v.ownBlock=some k∨k=w.heap.size:=by
 have form:∀(v':Value) (W:World) (q:Nat) (xs':List Value),W.ownsRow base e size v' q xs'→∃A' cap,v'=.slice A' q cap:=fun v' W q xs' h=>by
  rcases h.2 with ⟨rfl,h0⟩|⟨g,cap,cur,rfl,_⟩
  ·exact⟨none,0,by rw[h0]⟩
  ·exact⟨_,_,rfl⟩
 cases A with
 | some ad =>
  obtain⟨v',w',hr,h2,h3,_,h5⟩:=run_append_own_at (P:=P) w base t ty e i z size bytes ht hi hz hsize hby hzs hsz v n xs hown ad m c news hl (fun j u hj=>by obtain⟨_,e1,e2⟩:=hnews j u hj;cases e1;exact e2) h1 h63 hbytes hbase;obtain⟨A',cap,rfl⟩:=form _ _ _ _ h2;refine⟨A',cap,w',hr,h2,h3,fun k hk=>?_⟩
  rcases h5 with h5|h5
  ·exact .inl (h5 ▸ hk)
  ·exact .inr (by rw[h5] at hk;cases hk;rfl)
 | none =>
  have hm:news=[]:=by
   cases news with
   | nil=>rfl
   | cons u r=>obtain⟨_,e1,_⟩:=hnews 0 u rfl;cases e1
  subst hm;have hm0:m=0:=by
   rw[List.length_nil] at hl
   rcases Nat.mul_eq_zero.1 hl.symm with h|h<;>omega
  subst hm0;obtain⟨A',cap,rfl⟩:=form v w n xs hown;exact⟨A',cap,w,run_append_nil base t ty e i size ht hi _ n xs hown c,by rw[List.append_nil];exact hown,World.grownBy.refl _ _,fun k hk=>.inl hk⟩
theorem wpList_append_all {P:Program}{w:World}{ops:Array Oper}{rest:List Oper}{o:Oper}{a:Act}{Q:Exit→Act→World→Prop} (hgd:Region.wanted o (yielded ops a.tmps)=true) (s x:Operand) (t:TypeId)
  (ho:o.op=.call { callee:=.builtin .append,args:=#[s,x],argTypes:=#[t,t] })
  (base:Nat) (e:TypeId) (i:TypeInfo) (z:Value) (size bytes:Nat) (ht:P.underlying t=some (.slice e)) (hi:P.info? e=some i) (hz:i.zero=some z)
  (hsize:i.size=size) (hby:i.bytes=bytes) (hzs:z.cells.size=size) (hsz:0<size)
  (v:Value) (n:Nat) (xs:List Value) (hs:a.eval s=v) (hown:w.ownsRow base e size v n xs)
  (A:Option Addr) (m c:Nat) (news:List Value) (hx:a.eval x=.slice A m c) (hl:news.length=m*size) (hnews:∀j u,news[j]? = some u→∃ad,A=some ad∧w.cell? (ad.add j)=some u) (h1:∀u∈news,u.oneCell'=true)
  (q:Nat) (hq:n+m=q) (zs:List Value) (hzq:xs++news=zs) (h63:q≤maxLen) (hbytes:q*bytes≤140737488355328) (hbase:base≤w.heap.size)
  (h:∀A' cap w',w'.ownsRow base e size (.slice A' q cap) q zs→w.grownBy w' v.ownBlock→(∀k,(Value.slice A' q cap).ownBlock=some k→v.ownBlock=some k∨k=w.heap.size)→wpList P ops Q rest (a.put o.dst (.slice A' q cap)) w'):wpList P ops Q (o::rest) a w:=by
 subst hq;subst hzq;refine wpList_step fun K hK=>?_
 rw[if_pos hgd];obtain⟨A',cap,w',hr,h2,h3,h4⟩:=run_append_all (P:=P) w t o.type base e i z size bytes ht hi hz hsize hby hzs hsz v n xs hown A m c news hl hnews h1 h63 hbytes hbase;unfold Oper.wp execOp;simp only[ho,resolve,invoke,builtin,Sem.run_bind,Sem.run_pure,Result.andThen_ok,List.map_toArray,List.map_cons,List.map_nil,hs,hx,hr];exact hK _ _ (h A' cap w' h2 h3 h4)
end Go.Bd
namespace Go.Proofs.YtkdknllcllhpgaaGreatDoor
open Go.RowKit Go.Bd
theorem atA_info:(Tryz.prog.info? 47).map (fun i=>(i.zero,i.size,i.bytes))=some (some (.agg #[.string ⟨#[]⟩,.string ⟨#[]⟩]),2,32):=by kernel_rfl
theorem ats_under:Tryz.prog.underlying 25=some (.slice 47):=by kernel_rfl
end Go.Proofs.YtkdknllcllhpgaaGreatDoor
namespace Go.Bd
open Go.RowKit
theorem lt_tri:∀a b:Bs,a<b∨a=b∨b<a
 | [],[]=>.inr (.inl rfl)
 | [],_::_=>.inl (by simp)
 | _::_,[]=>.inr (.inr (by simp))
 | a::l,b::m=>by
  rw[List.cons_lt_cons_iff,List.cons_lt_cons_iff]
  by_cases h1:a<b
  ·exact .inl (.inl h1)
  ·by_cases h2:b<a
   ·exact .inr (.inr (.inl h2))
   ·have h3:a=b:=UInt8.le_antisymm (by simpa using h2) (by simpa using h1)
    rcases lt_tri l m with h|h|h
    ·exact .inl (.inr ⟨h3,h⟩)
    ·exact .inr (.inl (by rw[h3,h]))
    ·exact .inr (.inr (.inr ⟨h3.symm,h⟩))
theorem lt_tr:∀{a b c:Bs},a<b→b<c→a<c
 | [],_,[],_,h=>by simp at h
 | [],_,_::_,_,_=>by simp
 | _::_,[],_,h,_=>by simp at h
 | _::_,_::_,[],_,h=>by simp at h
 | a::l,b::m,c::n,h,k=>by
  rw[List.cons_lt_cons_iff] at h k ⊢
  rcases h with h|⟨h,h'⟩
  ·rcases k with k|⟨k,_⟩
   ·exact .inl (UInt8.lt_trans h k)
   ·subst k;exact .inl h
  ·rcases k with k|⟨k,k'⟩
   ·subst h;exact .inl k
   ·subst h;subst k;exact .inr ⟨rfl,lt_tr h' k'⟩
theorem rises_tail:∀{a:At}{l:List At},risesB (a::l)=true→risesB l=true∧∀b∈l,a.name.data.toList<b.name.data.toList
 | a,[],_=>⟨rfl,fun b h=>by cases h⟩
 | a,x::l,h=>by
  have h':(decide (a.name.data.toList<x.name.data.toList)&&risesB (x::l))=true:=h;rw[Bool.and_eq_true,decide_eq_true_eq] at h';refine⟨h'.2,fun b hb=>?_⟩
  rcases List.mem_cons.1 hb with rfl|hb
  ·exact h'.1
  ·exact lt_tr h'.1 ((rises_tail h'.2).2 b hb)
end Go.Bd
namespace Go.Proofs.YtkdknllcllhpgaaGreatDoor
open Go.RowKit Go.Bd
theorem attrs_at {w:World}{v:Value}{l:List At} (h:w.ownsRow 0 tAt 2 v l.length (rowAt l)):AtS w (fun k=>v.ownBlock=some k) v l:=by
 rcases Nat.eq_zero_or_pos l.length with h0|h0
 ·obtain⟨A,c,hv,hc⟩:=own_rowL h;have:l=[]:=List.length_eq_zero_iff.1 h0
  subst this;exact⟨A,c,hv,hc,fun j f hf=>by simp at hf⟩
 ·obtain⟨g,cap,hv,hc,_,_,h1,_⟩:=own_rowN h h0;refine⟨some ⟨g,0,none⟩,cap,by rw[List.length_map];exact hv,by rw[List.length_map];exact hc,fun j f hf=>?_⟩;rw[List.getElem?_map,Option.map_eq_some_iff] at hf;obtain⟨a,ha,rfl⟩:=hf;refine⟨g,0,rfl,by rw[hv];rfl,?_,?_⟩
  ·rw[Nat.zero_add];exact h1 _ _ (flat_get atCells 2 (fun _=>rfl) (i:=0) ha rfl)
  ·rw[Nat.zero_add];exact h1 _ _ (flat_get atCells 2 (fun _=>rfl) (i:=1) ha rfl)
theorem incl1_any {w:World}{g b:Nat}{r nm:ByteArray}{rv:Value} (hg:Holds w g 9 #[.string r]) (hb:Holds w b tSrc #[.string nm,rv]) :
  Calls Tryz.prog 113 #[.pointer (some ⟨b,0,none⟩),.pointer (some ⟨g,0,none⟩)] w fun e w'=>e=.returned (.bool (decide (nm=r)))∧Below w.heap.size w w':=by
 have c0:=hg.cell 0;have d0:=hb.cell 0;simp at c0 d0;have hE:=toL_eq nm r;clear hg hb;generalize decide (nm=r)=d at *
 go_enter Tryz.func113,Tryz.ntmps113
 go_wp2
 go_quiet (fail)
 go_wp2
 go_ret
 exact⟨rfl,Below.ofDrew w _⟩
theorem indexOpen_any {w:World}{κ:Nat→Nat}{rb wm:Nat}{sv:Value}{v:Rv}{st:Ast}{stk:Stk} (h:ARd w κ rb wm sv v st stk) (hn:stk.length≤1000) (hp:0<stk.length){g:Nat}{r:ByteArray} (hg:Holds w g 9 #[.string r]) :
  Calls Tryz.prog 159 #[v.ov,.func (.func 113) #[] #[.pointer (some ⟨g,0,none⟩)]] w fun e w'=>(∃i:Int,e=.returned (.int .i64 i)∧(0≤i↔hasN (stk.map (·.1)) r=true))∧Below w.heap.size w w':=by
 obtain⟨ob,cap,hov,hcl,_,hol,hoc,_⟩:=own_rowN h.opens hp;rw[hov];obtain⟨nl,hnl⟩:∃nl,stk.length=nl:=⟨_,rfl⟩;have hcl:∀(wr:World) (k:Nat),Below w.heap.size w wr→k<nl→∃b rv nm cs,stk[k]? = some (nm,cs)∧wr.cell? ⟨ob,k,none⟩=some (.pointer (some ⟨b,0,none⟩))∧Holds wr b tSrc #[.string nm,rv]:=fun wr k hb hk=>by
  obtain⟨s,hs⟩:∃s,stk[k]? = some s:=⟨_,List.getElem?_eq_getElem (by omega)⟩;obtain⟨p,hp⟩:∃p,v.sb[k]? = some p:=⟨_,List.getElem?_eq_getElem (by rw[h.len];omega)⟩;have h1:=h.src k p s hp hs;have h2:=hoc k (.pointer (some ⟨p.1,0,none⟩)) (by rw[List.getElem?_map,hp];rfl);exact⟨p.1,p.2,s.1,s.2,hs,(hb.cell (p:=⟨ob,k,none⟩) hol).trans h2,h1.hold.below hb h1.hold.lt⟩
 have HCL:=Lib.hid hcl;have HG:=Lib.hid hg;have HN:=Lib.hid hnl;rw[hnl] at hn ⊢;clear hcl hg hnl h hov hoc
 go_enter Tryz.func159,Tryz.ntmps159
 go_wp2_with fail
 go_loopg [8] nl (fun q i wr=>∃k:Nat,k+q=nl∧i=.int .i64 k∧Hid (Below w.heap.size w wr∧∀s∈stk.take k,s.1≠r))
 case atStart=>exact⟨0,by omega,rfl,Lib.hid ⟨Below.refl _ _,fun b hb=>by simp at hb⟩⟩
 case round =>
  obtain⟨k,hk,rfl,HR⟩:=hrel
  by_cases hlt:k<nl
  ·obtain⟨b,rv,nm,cs,hs,q0,hh⟩:=HCL.out wr k HR.out.1 hlt;have hX:=incl1_any (HG.out.below HR.out.1 HG.out.lt) hh;have HS:=Lib.hid hs;clear hs hh
   by_cases heq:nm=r
   ·rw[decide_eq_true heq] at hX;have HX:=hidH2 hX heq;clear hX heq
    go_wp2_with (go_at_call 113;refine HX.out.1.mono ?_;rintro e w2 ⟨rfl,hb2⟩)
    go_ret
    refine⟨⟨k,rfl,⟨fun _=>?_,fun _=>by omega⟩⟩,HR.out.1.trans (hb2.mono HR.out.1.size)⟩;rw[hasN_iff,List.mem_map];exact⟨_,List.mem_of_getElem? HS.out,HX.out.2⟩
   ·rw[decide_eq_false heq] at hX;have HX:=hidH2 hX heq;clear hX heq
    go_wp2_with (go_at_call 113;refine HX.out.1.mono ?_;rintro e w2 ⟨rfl,hb2⟩)
    go_roundg (gk-1)
    case measure=>omega
    case rel=>exact⟨k+1,by omega,by go_num,Lib.hid ⟨HR.out.1.trans (hb2.mono HR.out.1.size),fun s hs=>by
     rw[List.take_add_one,HS.out] at hs
     rcases List.mem_append.1 hs with h|h
     ·exact HR.out.2 s h
     ·rw[Option.toList_some,List.mem_singleton] at h;rw[h];exact HX.out.2⟩⟩
  ·obtain rfl:k=nl:=by omega
   go_wp2_with fail
   go_ret
   have hno:=HR.out.2;rw[List.take_of_length_le (by rw[HN.out];exact Nat.le_refl _)] at hno;refine⟨⟨-1,rfl,⟨fun h=>by omega,fun h=>?_⟩⟩,HR.out.1⟩;rw[hasN_iff,List.mem_map] at h;obtain⟨s,hs,he⟩:=h;exact absurd he (hno s hs)
theorem isOpen_any {w:World}{κ:Nat→Nat}{rb wm:Nat}{sv:Value}{v:Rv}{st:Ast}{stk:Stk} (h:ARd w κ rb wm sv v st stk) (hn:stk.length≤1000) (hp:0<stk.length){g:Nat}{r:ByteArray} (hg:Holds w g 9 #[.string r]) :
  Calls Tryz.prog 112 #[v.ov,.func (.func 113) #[] #[.pointer (some ⟨g,0,none⟩)]] w fun e w'=>e=.returned (.bool (hasN (stk.map (·.1)) r))∧Below w.heap.size w w':=by
 have hI:=indexOpen_any h hn hp hg;obtain⟨A,c,hov,_⟩:=own_rowL h.opens;rw[hov] at hI ⊢;obtain⟨b,hb⟩:∃b,hasN (stk.map (·.1)) r=b:=⟨_,rfl⟩;rw[hb] at hI ⊢;have HI:=Lib.hid hI;clear hI h hg hov hb
 go_enter Tryz.func112,Tryz.ntmps112
 go_wp2_with (go_at_call 159;refine HI.out.mono ?_;rintro e w2 ⟨⟨i,rfl,hi⟩,hb2⟩)
 go_ret
 refine⟨ret_bool ?_,hb2⟩;cases b<;>first|rfl|(rw[decide_eq_false];rw[hi];decide)|(rw[decide_eq_true];rw[hi])
end Go.Proofs.YtkdknllcllhpgaaGreatDoor
namespace Go.Bd
open Go.RowKit
end Go.Bd
namespace Go.Proofs.YtkdknllcllhpgaaGreatDoor
open Go.RowKit Go.Bd Go.Lib
theorem own_shut {w:World}{base sz n g c:Nat}{e:TypeId}{xs:List Value}{cur:Array Value} (h1:w.heap[g]? = some (.cells cur e (0,0))) (h2:cur.size=c*sz) (h3:cur.toList.take (n*sz)=xs) (h4:n≤c) (h5:c≤maxLen) (h6:base≤g):w.ownsRow base e sz (.slice (some ⟨g,0,none⟩) n c) n xs:=by
 refine⟨?_,.inr ⟨g,c,cur,rfl,h6,h1,h4,h5,h2,h3⟩⟩;rw[←h3,List.length_take,Array.length_toList,h2];exact Nat.min_eq_left (Nat.mul_le_mul_right _ h4)
end Go.Proofs.YtkdknllcllhpgaaGreatDoor
namespace Go.Bd
open Go.RowKit
end Go.Bd
namespace Go.Proofs.YtkdknllcllhpgaaGreatDoor
open Go.RowKit Go.Bd Go.Lib
theorem cloneA_any (l:List At) (S:Nat→Prop) (v:Value) (w:World) (hv:AtS w S v l) (hS:∀k,S k→k<w.heap.size) (hl:l.length≤1000000000) :
  Calls Tryz.prog 50 #[v] w fun e w'=>∃v',e=.returned v'∧w'.ownsRow w.heap.size 47 2 v' l.length (rowAt l)∧Below w.heap.size w w':=by
 obtain⟨i0,hi,hz0,hz1,hz2⟩:=info_parts atA_info;have hne:∀(w:World) (a:Option Addr) (n c n' c':Nat),(binOp .eql 25 (.slice a n c) (.slice none n' c')).run Tryz.prog w=.ok (.bool a.isNone) w:=fun w a n c n' c'=>Lib.run_eql_slice_nil w _ _ a n c n' c' ats_under
 obtain⟨A,c,rfl,hc,h1⟩:=hv;rw[List.length_map] at hc ⊢;cases A with
 | none =>
  have hl0:l=[]:=by
   cases l with
   | nil=>rfl
   | cons a l=>obtain⟨b,off,h2,_⟩:=h1 0 (atP a) rfl;cases h2
  subst hl0;clear h1
  go_enter Tryz.func50,Tryz.ntmps50
  go_wp2
  go_ret
  exact⟨_,rfl,World.ownsRow_nil _ _ _ _,Below.refl _ _⟩
 | some ad =>
  have hnews:∀(j:Nat) u,(rowAt l)[j]? = some u→(w.alloc (.cells #[] 47)).cell? (ad.add j)=some u:=fun j u hu=>by
   have hj:=(List.getElem?_eq_some_iff.1 hu).1;have hll:=rowAt_len l;obtain⟨f,hf⟩:∃f,l[j / 2]? = some f:=⟨_,List.getElem?_eq_getElem (by omega)⟩;obtain⟨b,off,h2,h3,h4,h5⟩:=h1 (j / 2) (atP f) (by rw[List.getElem?_map,hf];rfl);have k1:=flat_get atCells 2 (fun _=>rfl) (i:=0) (u:=.string f.name) hf rfl;have k2:=flat_get atCells 2 (fun _=>rfl) (i:=1) (u:=.string f.value) hf rfl;injection h2 with h2
   subst h2;rw[Addr.add_lit];unfold rowAt at hu
   rcases Nat.mod_two_eq_zero_or_one j with hm|hm
   ·have e:j / 2*2=j:=by omega
    rw[e] at h4;rw[e,Nat.add_zero] at k1;rw[k1] at hu;injection hu with hu
    subst hu;exact ((Below.refl w.heap.size w).alloc (Nat.le_refl _) _).cell (p:=⟨b,off+j,none⟩) (hS b h3) |>.trans h4
   ·have e:j / 2*2+1=j:=by omega
    rw[Nat.add_assoc,e] at h5;rw[e] at k2;rw[k2] at hu;injection hu with hu
    subst hu;exact ((Below.refl w.heap.size w).alloc (Nat.le_refl _) _).cell (p:=⟨b,off+j,none⟩) (hS b h3) |>.trans h5
  have HN:=Lib.hid hnews;clear h1 hnews;obtain⟨n,hn⟩:∃n,l.length=n:=⟨_,rfl⟩;rw[hn] at hl hc ⊢;have HL:=Lib.hid hn;clear hn
  go_enter Tryz.func50,Tryz.ntmps50
  go_wp2_with (at_builtin;refine wpList_append_own _ rfl _ _ 25 rfl w.heap.size 47 i0 _ 2 32 ats_under hi hz0 hz1 hz2 rfl (by decide) _ _ _ rfl (World.ownsRow_made w #[] 0 (Nat.le_refl _) (Nat.zero_le _) (by simp)) ad n c (rowAt l) rfl (by rw[rowAt_len,HL.out]) HN.out (fun u hu=>by unfold rowAt atCells at hu;obtain⟨s,_,hs⟩:=List.mem_flatMap.1 hu;rcases List.mem_cons.1 hs with rfl|hs;rfl;rw[List.mem_singleton.1 hs];rfl) (by simp only[maxLen];omega) (by omega) (by simp) ?_)
  intro v' w1 ho hg hnn;go_wp2
  go_ret
  refine⟨_,rfl,?_,((Below.refl _ w).alloc (Nat.le_refl _) _).grown hg (by simp) (fun k e=>by cases e;exact Nat.le_refl _)⟩;simpa using ho
end Go.Proofs.YtkdknllcllhpgaaGreatDoor
namespace Go.Bd
open Go.RowKit
def askedV (o:Option Bs):Value:=match o with|none=>.tuple #[.string ⟨#[]⟩,.bool false]|some a=>.tuple #[.string (ofB a),.bool true]
theorem ofB_lst (s:ByteArray):ofB s.data.toList=s:=by unfold ofB;cases s;simp
theorem ext_lst (s:ByteArray) (a b:Nat):(s.extract a b).data.toList=(s.data.toList.take b).drop a:=by
 rw[List.drop_take];simp[ByteArray.data_extract]
theorem asked_head {s:Bs} (h:s.headD 0≠123):askedB s=none:=by
 cases s with
 | nil=>rfl
 | cons c l =>
  have hc:c≠123:=h;unfold askedB;split
  ·rename_i h1;cases h1;exact absurd rfl hc
  ·rfl
theorem asked_cut {l:Bs}:askedB (123::l)=match cutB 125 (l.take 61) with|some (a,_)=>if nameB a then some a else none|none=>none:=rfl
end Go.Bd
namespace Go.Proofs.YtkdknllcllhpgaaGreatDoor
open Go.RowKit Go.Bd
theorem asked_any (s:ByteArray) (w:World) (hs:s.size≤1000000000) :
  Calls Tryz.prog 204 #[.string s] w fun e w'=>e=.returned (askedV (askedB s.data.toList))∧w=w':=by
 by_cases h0:s.size=0
 ·have hl:s.data.toList=[]:=List.length_eq_zero_iff.1 (by rw[size_lst];exact h0);have hs0:s=⟨#[]⟩:=by rw[←ofB_lst s,hl];rfl
  subst hs0
  go_enter Tryz.func204,Tryz.ntmps204
  go_wp2_with fail
  go_ret2
  exact⟨rfl,rfl⟩
 have hne:¬s=⟨#[]⟩:=fun e=>h0 (by rw[e];rfl)
 have hE:s.toList.isEmpty=false:=by
  rw[Lib.toList_data,List.isEmpty_eq_false_iff];intro e
  apply h0
  rw[←size_lst,e];rfl
 have h1:0<s.size:=by omega
 by_cases hb:s[0].toNat=123
 ·obtain⟨l,hl⟩:∃l,s.data.toList=123::l:=by
   have:=headD_get s h1
   cases hs:s.data.toList with
   | nil=>rw[←size_lst,hs] at h1;simp at h1
   | cons c l =>
    rw[hs] at this;have e:c=123:=by rw[show c=s[0] from this];exact UInt8.toNat_inj.1 hb
    exact⟨l,by rw[e]⟩
  have hll:l.length+1=s.size:=by rw[←size_lst,hl];rfl
  obtain⟨m,hm⟩:∃m:Nat,(if s.size≤62 then s.size else 62)=m:=⟨_,rfl⟩;have hm1:1≤m∧m≤s.size∧m≤62:=by subst hm;split<;>omega
  obtain⟨t,ht⟩:∃t,s.extract 1 m=t:=⟨_,rfl⟩;have htl:t.data.toList=l.take 61:=by
   rw[←ht,ext_lst,hl];subst hm;split
   ·rw[List.take_of_length_le (by rw[List.length_cons];omega),List.take_of_length_le (by omega)];rfl
   ·rfl
  have hts:t.size≤61:=by rw[←size_lst,htl,List.length_take];omega
  have hix:=Tryz.strings_IndexByte t 125 w;rw[htl] at hix;have e125:(125:Int).toNat.toUInt8=125:=by decide
  rw[e125,←Lib.index_one] at hix;rw[hl,asked_cut];have hbi:((s[0].toNat:Int)=123):=by omega
  have hmn:(min (s.size:Int) 62)=(m:Int):=by
   subst hm;split<;>omega
  have HT:=Lib.hid ht
  rcases index_cut 125 (l.take 61) with ⟨hi,hcut⟩|⟨k,hi,hcut⟩
  ·rw[hcut];rw[hi] at hix;have HX:=Lib.hid hix;clear hix hl hll htl hcut hi ht
   go_enter Tryz.func204,Tryz.ntmps204
   go_wp2_with fail
   rw[HT.out];refine HX.out.mono ?_;rintro e w2 ⟨rfl,rfl⟩
   go_wp2_with fail
   go_ret2
   exact⟨rfl,rfl⟩
  ·rw[hcut];rw[hi] at hix;have hkt:k≤t.size:=by
    have:=Lib.index_le (l.take 61) [125]
    rw[hi] at this;rw[←size_lst,htl];omega
   obtain⟨u,hu⟩:∃u,t.extract 0 k=u:=⟨_,rfl⟩;have hul:u.data.toList=(l.take 61).take k:=by rw[←hu,ext_lst,htl];rfl
   have huo:ofB ((l.take 61).take k)=u:=by rw[←hul,ofB_lst]
   have hn:=fun W=>name_any u W (by rw[←size_lst,hul,List.length_take,List.length_take];omega)
   rw[hul] at hn;dsimp only;obtain⟨bn,hbn⟩:∃bn,nameB ((l.take 61).take k)=bn:=⟨_,rfl⟩;rw[hbn] at hn ⊢;have HX:=hidH4 hix hn hu huo;have hk0:¬((k:Int)<0):=by omega
   clear hix hl hll htl hcut hi ht hu hul huo hn hbn;cases bn with
   | false =>
    go_enter Tryz.func204,Tryz.ntmps204
    go_wp2_with fail
    rw[HT.out];refine HX.out.1.mono ?_;rintro e w2 ⟨rfl,rfl⟩
    go_wp2_with fail
    rw[HX.out.2.2.1];refine (HX.out.2.1 _).mono ?_;rintro e w2 ⟨rfl,rfl⟩
    go_wp2_with fail
    go_ret2
    exact⟨rfl,rfl⟩
   | true =>
    go_enter Tryz.func204,Tryz.ntmps204
    go_wp2_with fail
    rw[HT.out];refine HX.out.1.mono ?_;rintro e w2 ⟨rfl,rfl⟩
    go_wp2_with fail
    rw[HX.out.2.2.1];refine (HX.out.2.1 _).mono ?_;rintro e w2 ⟨rfl,rfl⟩
    go_wp2_with fail
    go_ret2
    rw[HX.out.2.2.1];refine⟨?_,rfl⟩
    show _=Ending.returned (.tuple #[.string (ofB ((l.take 61).take k)),.bool true])
    rw[HX.out.2.2.2];rfl
 ·have hd:askedB s.data.toList=none:=asked_head (by
   intro e
   apply hb
   rw[←headD_get s h1,e];rfl)
  rw[hd];have hbi:¬((s[0].toNat:Int)=123):=by omega
  go_enter Tryz.func204,Tryz.ntmps204
  go_wp2_with fail
  go_ret2
  exact⟨rfl,rfl⟩
end Go.Proofs.YtkdknllcllhpgaaGreatDoor
namespace Go.Bd
open Go.RowKit
theorem fill_fuel (l:List At):∀(n m:Nat) (s:Bs) (ns:List ByteArray),s.length≤n→s.length≤m→fillB l n s ns=fillB l m s ns
 | 0,0,_,_,_,_=>rfl
 | 0,m+1,[],_,_,_=>rfl
 | n+1,0,[],_,_,_=>rfl
 | n+1,m+1,[],_,_,_=>rfl
 | 0,_+1,_::_,_,h,_=>by simp at h
 | _+1,0,_::_,_,_,h=>by simp at h
 | n+1,m+1,c::s,ns,h,h'=>by
  rw[List.length_cons] at h h';have e1:=fill_fuel l n m s ns (by omega) (by omega);unfold fillB;cases ha:askedB (c::s) with
  | none=>dsimp only;rw[e1]
  | some a =>
   have e2:=fill_fuel l n m (s.drop (a.length+1)) (addN ns (ofB a)) (by rw[List.length_drop];omega) (by rw[List.length_drop];omega);dsimp only;rw[e2]
def fillA (l:List At) (s:Bs) (ns:List ByteArray):Bs×List ByteArray:=fillB l s.length s ns
theorem fillA_nil (l:List At) (ns:List ByteArray):fillA l [] ns=([],ns):=rfl
theorem fillA_none {l:List At}{c:UInt8}{s:Bs}{ns:List ByteArray} (h:askedB (c::s)=none):fillA l (c::s) ns=(c::(fillA l s ns).1,(fillA l s ns).2):=by
 unfold fillA;rw[List.length_cons]
 show (match askedB (c::s) with|none=>_|some a=>_)=_
 rw[h]
theorem fillA_some {l:List At}{c:UInt8}{s a:Bs}{ns:List ByteArray} (h:askedB (c::s)=some a):fillA l (c::s) ns =
  ((match getA l (ofB a) with|some v=>v.data.toList|none=>123::(a++[125]))++(fillA l (s.drop (a.length+1)) (addN ns (ofB a))).1,(fillA l (s.drop (a.length+1)) (addN ns (ofB a))).2):=by
 have e:=fill_fuel l s.length (s.drop (a.length+1)).length (s.drop (a.length+1)) (addN ns (ofB a)) (by rw[List.length_drop];omega) (Nat.le_refl _);unfold fillA;rw[←e,List.length_cons]
 show (match askedB (c::s) with|none=>_|some a=>_)=_
 rw[h];dsimp only;cases getA l (ofB a) with
 | none=>simp
 | some v=>rfl
theorem asked_form {s a:Bs} (h:askedB s=some a):s.take (a.length+2)=123::(a++[125])∧a.length+2≤s.length:=by
 have hlen:=askedB_len h;refine⟨?_,hlen.2⟩;unfold askedB at h;split at h
 ·rename_i r;cases hc:cutB 125 (r.take 61) with
  | none=>rw[hc] at h;cases h
  | some p =>
   obtain⟨x,y⟩:=p;rw[hc] at h;dsimp only at h;split at h
   ·cases h
    have key:∀(q u v:Bs),cutB 125 q=some (u,v)→q=u++125::v:=by
     intro q
     induction q with
     | nil=>intro u v h;cases h
     | cons b q ih =>
      intro u v h;unfold cutB at h;split at h
      ·rename_i hb;cases h
       rw[beq_iff_eq] at hb;rw[hb];rfl
      ·cases hq:cutB 125 q with
       | none=>rw[hq] at h;cases h
       | some p =>
        obtain⟨p1,p2⟩:=p;rw[hq] at h;cases h
        rw[ih _ _ hq];rfl
    have e:=key _ _ _ hc;have hl2:a.length+1≤(r.take 61).length:=by rw[e];simp
    have e2:r.take (a.length+1)=(r.take 61).take (a.length+1):=by
     rw[List.take_take,Nat.min_eq_left (by rw[List.length_take] at hl2;omega)]
    show 123::r.take (a.length+1)=_
    rw[e2,e,List.take_length_add_append];rfl
   ·cases h
 ·cases h
theorem fillA_skip (l:List At) (ns:List ByteArray):∀(k:Nat) (s:Bs),(∀c∈s.take k,c≠123)→fillA l s ns=(s.take k++(fillA l (s.drop k) ns).1,(fillA l (s.drop k) ns).2)
 | 0,s,_=>by simp
 | k+1,[],_=>by simp[fillA_nil]
 | k+1,c::s,h=>by
  have h1:c≠123:=h c (by simp);rw[fillA_none (asked_head (s:=c::s) h1),fillA_skip l ns k s (fun x hx=>h x (by simp[hx]))]
  first|done|rfl
theorem index_free (c:UInt8):∀(s:Bs) (k:Nat),Lib.indexByte s c=k→(∀x∈s.take k,x≠c)∧k<s.length∧s[k]? = some c
 | [],k,h=>by
  have:(-1:Int)=k:=h
  exact absurd this (by omega)
 | b::s,k,h=>by
  have e:Lib.indexByte (b::s) c=if (b==c)=true then 0 else if (Lib.indexByte s c == -1)=true then -1 else Lib.indexByte s c+1:=rfl
  rw[e] at h
  by_cases hb:b=c
  ·rw[if_pos (by simp[hb])] at h;have:k=0:=by omega
   subst this;exact⟨by simp,by simp,by simp[hb]⟩
  ·rw[if_neg (by simpa using hb)] at h
   by_cases hm:Lib.indexByte s c=-1
   ·rw[if_pos (by simp[hm])] at h;omega
   ·rw[if_neg (by simpa using hm)] at h;cases k with
    | zero =>
     exfalso;have:∀s:Bs,-1≤Lib.indexByte s c:=by
      intro s
      induction s with
      | nil=>exact Int.le_refl _
      | cons b s ih =>
       show -1≤(if (b==c)=true then (0:Int) else if (Lib.indexByte s c == -1)=true then -1 else Lib.indexByte s c+1)
       split
       ·omega
       ·split<;>omega
     have:=this s
     omega
    | succ k =>
     have ih:=index_free c s k (by omega);refine⟨fun x hx=>?_,by simpa using ih.2.1,by simpa using ih.2.2⟩;rw[List.take_succ_cons] at hx
     rcases List.mem_cons.1 hx with rfl|hx
     ·exact hb
     ·exact ih.1 x hx
theorem index_no (c:UInt8):∀(s:Bs),Lib.indexByte s c<0→∀x∈s,x≠c
 | [],_,x,hx=>by cases hx
 | b::s,h,x,hx=>by
  have e:Lib.indexByte (b::s) c=if (b==c)=true then 0 else if (Lib.indexByte s c == -1)=true then -1 else Lib.indexByte s c+1:=rfl
  rw[e] at h
  by_cases hb:b=c
  ·rw[if_pos (by simp[hb])] at h;omega
  ·rw[if_neg (by simpa using hb)] at h
   rcases List.mem_cons.1 hx with rfl|hx
   ·exact hb
   ·refine index_no c s ?_ x hx
    by_cases hm:Lib.indexByte s c=-1
    ·omega
    ·rw[if_neg (by simpa using hm)] at h;omega
structure FillAt (l:List At) (s:Bs) (frm at':Nat) (built:Bs) (ns:List ByteArray):Prop where
 le:frm≤at'
 at_le:at'≤s.length
 eq:fillA l s []=(built++((s.take at').drop frm++(fillA l (s.drop at') ns).1),(fillA l (s.drop at') ns).2)
section
variable {l:List At} {s:Bs} {frm at':Nat} {built:Bs} {ns:List ByteArray}
theorem FillAt.first (l:List At) (s:Bs):FillAt l s 0 0 [] []:=⟨Nat.le_refl _,Nat.zero_le _,by simp⟩
theorem piece (h1:frm≤at') (h2:at'≤s.length) (k:Nat):(s.take (at'+k)).drop frm=(s.take at').drop frm++(s.drop at').take k:=by
 rw[List.take_add,List.drop_append_of_le_length (by rw[List.length_take];omega)]
theorem FillAt.skip (h:FillAt l s frm at' built ns){k:Nat} (hk:at'+k≤s.length) (hf:∀c∈(s.drop at').take k,c≠123):FillAt l s frm (at'+k) built ns:=by
 refine⟨by have:=h.le;omega,hk,?_⟩;rw[h.eq,fillA_skip l ns k (s.drop at') hf,List.drop_drop,piece h.le h.at_le];simp
theorem FillAt.one (h:FillAt l s frm at' built ns) (hl:at'<s.length) (ha:askedB (s.drop at')=none):FillAt l s frm (at'+1) built ns:=by
 refine⟨by have:=h.le;omega,hl,?_⟩;obtain⟨c,t,ht⟩:∃c t,s.drop at'=c::t:=by
  cases hd:s.drop at' with
  | nil=>have:=congrArg List.length hd;rw[List.length_drop] at this;simp at this;omega
  | cons c t=>exact⟨c,t,rfl⟩
 have h2:s.drop (at'+1)=t:=by rw[←List.drop_drop,ht];rfl
 rw[h.eq,ht,fillA_none (by rw[←ht];exact ha),h2,piece h.le h.at_le,ht];simp
theorem FillAt.none (h:FillAt l s frm at' built ns){a:Bs} (ha:askedB (s.drop at')=some a) (hg:getA l (ofB a)=none):FillAt l s frm (at'+(a.length+2)) built (addN ns (ofB a)):=by
 have hf:=asked_form ha;rw[List.length_drop] at hf;refine⟨by have:=h.le;omega,by have:=h.at_le;omega,?_⟩;obtain⟨c,t,ht⟩:∃c t,s.drop at'=c::t:=by
  cases hd:s.drop at' with
  | nil=>have:=congrArg List.length hd;rw[List.length_drop] at this;simp at this;omega
  | cons c t=>exact⟨c,t,rfl⟩
 have h2:s.drop (at'+(a.length+2))=t.drop (a.length+1):=by rw[←List.drop_drop,ht];rfl
 rw[h.eq,piece h.le h.at_le,hf.1,h2,ht,fillA_some (by rw[←ht];exact ha),hg];simp
theorem FillAt.some (h:FillAt l s frm at' built ns){a:Bs} (ha:askedB (s.drop at')=some a){v:ByteArray} (hg:getA l (ofB a)=some v):FillAt l s (at'+(a.length+2)) (at'+(a.length+2)) (built++(s.take at').drop frm++v.data.toList) (addN ns (ofB a)):=by
 have hf:=asked_form ha;rw[List.length_drop] at hf;refine⟨Nat.le_refl _,by have:=h.at_le;omega,?_⟩;obtain⟨c,t,ht⟩:∃c t,s.drop at'=c::t:=by
  cases hd:s.drop at' with
  | nil=>have:=congrArg List.length hd;rw[List.length_drop] at this;simp at this;omega
  | cons c t=>exact⟨c,t,rfl⟩
 have h2:s.drop (at'+(a.length+2))=t.drop (a.length+1):=by rw[←List.drop_drop,ht];rfl
 have h3:(s.take (at'+(a.length+2))).drop (at'+(a.length+2))=[]:=List.drop_of_length_le (by rw[List.length_take];omega);rw[h.eq,h2,h3,ht,fillA_some (by rw[←ht];exact ha),hg];simp
theorem FillAt.last (h:FillAt l s frm at' built ns) (hf:∀c∈s.drop at',c≠123):fillA l s []=(built++s.drop frm,ns):=by
 have h1:=h.skip (k:=s.length-at') (by have:=h.at_le;omega) (fun c hc=>hf c (List.mem_of_mem_take hc));have e:at'+(s.length-at')=s.length:=by have:=h.at_le;omega
 rw[e] at h1;rw[h1.eq,List.drop_length,fillA_nil,List.take_length];simp
theorem FillAt.len (h:FillAt l s frm at' built ns) (hl:∀a∈l,a.value.size≤1024):built.length≤342*s.length∧built.length+((s.take at').drop frm).length≤342*s.length:=by
 have h1:=(fillB_len hl s.length s []).1;have h2:=congrArg (fun p=>p.1.length) h.eq;simp only[List.length_append] at h2;unfold fillA at h2;omega
end
end Go.Bd
namespace Go.Bd
open Go.RowKit
def plF (l:List At) (ns:List ByteArray):List Fe:=ns.map fun n=>⟨n,.int .i64 (idxA l n),[]⟩
theorem plF_find (l:List At) (n:ByteArray) (z:Value):∀ns:List ByteArray,findF (plF l ns) n=if hasN ns n then some ⟨n,.int .i64 (idxA l n),[]⟩ else none
 | []=>rfl
 | m::ns=>by
  have ih:=plF_find l n z ns;unfold findF plF hasN at *;rw[List.map_cons]
  by_cases h:m=n
  ·subst h;simp
  ·rw[List.find?_cons_of_neg (by simp[h]),ih,List.any_cons,decide_eq_false h,Bool.false_or]
theorem plF_put (l:List At){ns:List ByteArray}{n:ByteArray} (h:hasN ns n=false):putF (plF l ns) ⟨n,.int .i64 (idxA l n),[]⟩=plF l (ns++[n]):=by
 unfold putF delF plF;rw[List.map_append,List.filter_eq_self.2]
 ·rfl
 ·intro e he;obtain⟨m,hm,rfl⟩:=List.mem_map.1 he;have:m≠n:=fun e=>by
   have h2:=hasN_iff.2 (e ▸ hm);rw[h] at h2;cases h2
  simpa using this
theorem FsMap.obj {w:World}{P:Program}{K bm:Nat}{es:List Fe} (h:FsMap w P K bm es):∃m c,w.heap[bm]? = some (.map m c):=by
 obtain⟨D,⟨m,c,h1,_⟩,_⟩:=h;exact⟨m,c,h1⟩
theorem own_obj {w:World}{base sz n g:Nat}{e:TypeId}{xs:List Value}{v:Value} (h:w.ownsRow base e sz v n xs) (hg:v.ownBlock=some g):base≤g∧∃cur,w.heap[g]? = some (.cells cur e (0,0)):=by
 rcases h.2 with ⟨h1,_⟩|⟨g',cap,cur,h1,h0,h2,_⟩
 ·rw[h1] at hg;cases hg
 ·rw[h1] at hg;have:g'=g:=by simpa [Value.ownBlock] using hg
  rw[←this];exact⟨h0,cur,h2⟩
theorem own_keep {w w':World}{base sz n:Nat}{e:TypeId}{xs:List Value}{v:Value} (h:w.ownsRow base e sz v n xs) (hk:∀g,v.ownBlock=some g→w'.heap[g]? = w.heap[g]?):w'.ownsRow base e sz v n xs:=by
 refine⟨h.1,?_⟩
 rcases h.2 with h1|⟨g,cap,cur,h1,h2,h3,h4⟩
 ·exact .inl h1
 ·exact .inr ⟨g,cap,cur,h1,h2,(hk g (by rw[h1];rfl)).trans h3,h4⟩
end Go.Bd
namespace Go.Proofs.YtkdknllcllhpgaaGreatDoor
open Go.RowKit Go.Bd
theorem places_under:Tryz.prog.underlying 272=some (.map 9 3):=by kernel_rfl
theorem places_zero (w:World):(zeroValue 3).run Tryz.prog w=.ok (.int .i64 0) w:=by kernel_rfl
theorem tx_infoA:(Tryz.prog.info? 9).map (fun i=>(i.zero,i.size,i.bytes))=some (some (.string ⟨#[]⟩),1,16):=by kernel_rfl
theorem txs_underA:Tryz.prog.underlying 24=some (.slice 9):=by kernel_rfl
theorem BldF.kept {B b:Nat}{l:Bs}{w w':World}{S:Nat→Prop} (h:BldF B b l w) (hc:Chg w w' S) (hb:¬S b) (hu:∀k cs fr,S k→w.heap[k]?≠some (.cells cs 5 fr)):BldF B b l w':=by
 have so:∀{n sz:Nat} {v:Value} {xs:List Value},w.ownsRowF B 5 sz v n xs→w'.ownsRowF B 5 sz v n xs:=fun {n sz v xs} h=>by
  refine⟨h.1,?_⟩
  rcases h.2 with h1|h1
  ·exact .inl h1
  ·refine .inr ?_;obtain⟨g,cap,cur,r⟩:=h1;have hlt:g<w.heap.size∧¬S g:=by
    obtain⟨_,_,r⟩:=r
    first
     | (obtain⟨z,hh,_⟩:=r;exact⟨(Array.getElem?_eq_some_iff.1 hh).1,fun hs=>hu g _ _ hs hh⟩)
     | (obtain⟨hh,_⟩:=r;exact⟨(Array.getElem?_eq_some_iff.1 hh).1,fun hs=>hu g _ _ hs hh⟩)
   refine⟨g,cap,cur,?_⟩;rw[hc.block g hlt.1 hlt.2];exact r
 have st:∀p,Lib.BuilderAtF 118 5 B b p (Lib.byteCells l) w→Lib.BuilderAtF 118 5 B b p (Lib.byteCells l) w':=fun p h=>by
  obtain⟨h1,v,h2,h3,h4⟩:=h;exact⟨h1,v,(hc.block b (Array.getElem?_eq_some_iff.1 h2).1 hb).trans h2,so h3,h4⟩
 rcases h with h|h
 ·exact .inl (st _ h)
 ·exact .inr (st _ h)
theorem addN_old {ns:List ByteArray}{n:ByteArray} (h:hasN ns n=true):addN ns n=ns:=by unfold addN;rw[if_pos h]
theorem addN_new {ns:List ByteArray}{n:ByteArray} (h:hasN ns n=false):addN ns n=ns++[n]:=by unfold addN;rw[if_neg (by rw[h];decide)]
structure Fl (w:World) (B:Nat) (l:List At) (nv:Value) (built:Bs) (ms ns:List ByteArray) (W:World):Prop where
 bld:BldF B B built W
 map:FsMap W Tryz.prog 9 (B+1) (plF l ms)
 uniq:Uniq (plF l ms)
 row:W.ownsRow B 9 1 nv ns.length (rowTx ns)
 below:Below B w W
section
variable {w W W':World} {B:Nat} {l:List At} {nv:Value} {built:Bs} {ms ns:List ByteArray}
theorem Fl.later (h:Fl w B l nv built ms ns W) (hb:Below W.heap.size W W'):Fl w B l nv built ms ns W' :=
 ⟨h.bld.later hb,h.map.eq (hb.block _ h.map.lt),h.uniq,own_keep h.row (fun g hg=>hb.block g (by obtain⟨_,cur,hc⟩:=own_obj h.row hg;exact (Array.getElem?_eq_some_iff.1 hc).1)),h.below.trans (hb.mono (by have:=h.bld.lt;omega))⟩
theorem Fl.far (h:Fl w B l nv built ms ns W):nv.ownBlock≠some B:=fun hg=>by
 obtain⟨_,cur,hc⟩:=own_obj h.row hg
 rcases h.bld with ⟨_,v,hb,_⟩|⟨_,v,hb,_⟩<;>(rw[hb] at hc;injection hc with hc;injection hc with _ e2 _;exact absurd e2 (by decide))
theorem Fl.write (h:Fl w B l nv built ms ns W){built':Bs} (h1:BldF B B built' W') (h2:Below B W W') (h3:Kept B W W'):Fl w B l nv built' ms ns W':=by
 refine⟨h1,?_,h.uniq,?_,h.below.trans h2⟩
 ·obtain⟨m,c,hm⟩:=h.map.obj;refine h.map.eq ((h3 (B+1) _ hm (fun e=>by injection e with e;omega) (fun c fz e=>by cases e)).trans hm.symm)
 ·refine own_keep h.row (fun g hg=>?_);obtain⟨_,cur,hc⟩:=own_obj h.row hg;refine (h3 g _ hc (fun e=>?_) (fun c fz e=>by injection e with _ e2 _;exact absurd e2 (by decide))).trans hc.symm;injection e with e
  subst e;exact h.far hg
theorem Fl.named (h:Fl w B l nv built ms ns W){n:ByteArray} (hn:hasN ms n=false) (hz:n.size≤1000000000) (hl:ms.length≤1000000000000) :
  ∃w',(Instr.mapUpdate 272 (.map (some (B+1))) (.string n) (.int .i64 (idxA l n))).run Tryz.prog W=.ok () w'∧Fl w B l nv built (ms++[n]) ns w'∧w'.heap.size=W.heap.size:=by
 obtain⟨w',h1,h2,h3,h4⟩:=h.map.store h.uniq str_under places_under (by unfold plF;rw[List.length_map];unfold maxLen;omega) ⟨n,.int .i64 (idxA l n),[]⟩ (by show n.size≤_;unfold maxLen;omega);obtain⟨m,c,hm⟩:=h.map.obj;have hb:=h.bld.lt;refine⟨w',h1,⟨h.bld.kept h3 (fun e=>by have e:B=B+1:=e;omega) (fun k cs fr hk=>by rw[show k=B+1 from hk,hm];intro e;injection e with e;cases e),by rw[←plF_put l hn];exact h2,by rw[←plF_put l hn];exact h.uniq.put _,own_keep h.row (fun g hg=>?_),h.below.trans (h3.toBelow (by omega) (fun k hk=>by have hk:k=B+1:=hk;omega))⟩,h4⟩;obtain⟨_,cur,hc⟩:=own_obj h.row hg;refine h3.block g (Array.getElem?_eq_some_iff.1 hc).1 (fun e=>?_);rw[show g=B+1 from e,hm] at hc;injection hc with hc
 cases hc
theorem Fl.grow (h:Fl w B l nv built ms ns W){n:ByteArray}{nv':Value} (hc:Chg W W' (fun k=>some k=nv.ownBlock)) (ho:W'.ownsRow B 9 1 nv' (ns.length+1) (rowTx ns++[.string n])):Fl w B l nv' built ms (ns++[n]) W':=by
 refine⟨h.bld.kept hc (fun e=>h.far e.symm) (fun k cs fr hk hh=>?_),h.map.chg hc (fun e=>?_),h.uniq,?_,h.below.trans (hc.toBelow (by have:=h.bld.lt;omega) (fun k hk=>(own_obj h.row hk.symm).1))⟩
 ·obtain⟨_,cur,h1⟩:=own_obj h.row hk.symm;rw[h1] at hh;injection hh with hh
  injection hh with _ e2 _
  exact absurd e2 (by decide)
 ·obtain⟨_,cur,h1⟩:=own_obj h.row e.symm;obtain⟨m,c,hm⟩:=h.map.obj;rw[hm] at h1;injection h1 with h1
  cases h1
 ·rw[List.length_append];unfold rowTx at ho ⊢;rw[List.map_append];exact ho
theorem Fl.calls (h:Fl w B l nv built ms ns W) (s:ByteArray) (hlen:built.length+s.size≤140737488355328):Calls Tryz.prog 97 #[.pointer (some ⟨B,0,none⟩),.string s] W fun e w'=>e=.returned (.tuple #[.int .i64 s.size,.nilIface])∧Fl w B l nv (built++s.data.toList) ms ns w' :=
 (bldK_write B B built s W h.bld hlen (by have:=h.bld.lt;omega)).mono fun _ _ ⟨h1,h2,h3,h4⟩=>⟨h1,h.write h2 h3 h4⟩
theorem Fl.look (h:Fl w B l nv built ms ns W){n:ByteArray} (hz:n.size≤1000000000) :
  (Instr.lookup 272 (.map (some (B+1))) (.string n) true).run Tryz.prog W=.ok (.tuple #[.int .i64 (if hasN ms n then idxA l n else 0),.bool (hasN ms n)]) W:=by
 rw[FsMap.lookz_ok h.map str_under places_under (places_zero W) (s:=n) (by unfold maxLen;omega),plF_find l n (.int .i64 0) ms];cases hasN ms n<;>rfl
end
theorem Fill_any {w:World}{S:Nat→Prop}{v:Value}{l:List At} (hl:AtS w S v l) (hS:∀k,S k→k<w.heap.size) (hn:l.length≤1000000000) (hv:∀a∈l,a.value.size≤1024) (s:ByteArray) (hs:s.size≤1000000) :
  Calls Tryz.prog 160 #[v,.string s] w fun e w'=>∃nv,e=.returned (.tuple #[.string (fillT l s),nv])∧Below w.heap.size w w'∧w'.ownsRow w.heap.size 9 1 nv (fillN l s).length (rowTx (fillN l s)):=by
 have hmm:=@run_makeMap Tryz.prog;obtain⟨A,c,rfl,hc,h1⟩:=hl;have hl':AtS w S (.slice A (l.map atP).length c) l:=⟨A,c,rfl,hc,h1⟩;rw[List.length_map] at hc hl' ⊢;have hfill:fillA l s.data.toList []=fillB l s.size s.data.toList []:=by unfold fillA;rw[size_lst]
 have hT:∀o ns,fillA l s.data.toList []=(o,ns)→fillT l s=ofB o∧fillN l s=ns:=fun o ns h=>by
  unfold fillT fillN;rw[←hfill,h];exact⟨rfl,rfl⟩
 obtain⟨nl,hnl⟩:∃nl,l.length=nl:=⟨_,rfl⟩;rw[hnl] at hc hn hl' ⊢;have HL:=hidH5 hl' hS hT hv hnl;obtain⟨B,hB⟩:∃B,w.heap.size=B:=⟨_,rfl⟩;obtain⟨W0,hW0⟩:∃W0,(w.alloc (.cells #[.pointer none,.slice none 0 0] 118)).alloc (.map #[] 0)=W0:=⟨_,rfl⟩;have hF0:Fl w B l (.slice none 0 0) [] [] [] W0:=by
  have hm0:=FsMap.new (w.alloc (.cells #[.pointer none,.slice none 0 0] 118)) Tryz.prog 9;rw[World.size_alloc,hB,hW0] at hm0;have hb0:=(BldF.fresh w).later ((Below.refl _ _).alloc (Nat.le_refl _) (.map #[] 0));rw[hB,hW0] at hb0;exact⟨hb0,hm0,List.Pairwise.nil,World.ownsRow_nil _ _ _ _,by rw[←hW0,←hB];exact ((Below.refl _ w).alloc (Nat.le_refl _) _).alloc (by simp) _⟩
 have HF0:=Lib.hid hF0;have HBB:=Lib.hid hB;have HI:=Lib.hid (info_parts tx_infoA);clear h1 hl' hS hT hfill hv hnl hF0
 go_enter Tryz.func160,Tryz.ntmps160
 go_wp2_with fail
 (try rw[hW0])
 (try rw[hB])
 clear hW0 hB hmm
 go_loopg [7,9,10] (s.size+1) (fun q nv fv av wr=>∃(frm at':Nat) (built:Bs) (ns:List ByteArray),at'+q=s.size+1∧at'≤s.size∧frm≤at'∧fv=.int .i64 (frm:Int)∧av=.int .i64 (at':Int)∧ns.length≤at'∧Hid (FillAt l s.data.toList frm at' built ns∧Fl w B l nv built ns ns wr))
 case atStart=>exact⟨0,0,[],[],by omega,Nat.zero_le _,Nat.le_refl _,rfl,rfl,Nat.le_refl _,FillAt.first _ _,HF0.out⟩
 case round =>
  obtain⟨frm,at',built,ns,hq,hal,hfa,rfl,rfl,hnl,HR⟩:=hrel;obtain⟨sub,hsub⟩:∃sub,s.extract at' s.size=sub:=⟨_,rfl⟩;have hsl:sub.data.toList=s.data.toList.drop at':=by rw[←hsub,ext_lst,List.take_of_length_le (by rw[size_lst];exact Nat.le_refl _)]
  have hix:=fun W=>Tryz.strings_IndexByte sub 123 W
  have e123:(123:Int).toNat.toUInt8=123:=by decide
  rw[e123,hsl] at hix
  by_cases hneg:Lib.indexByte (s.data.toList.drop at') 123<0
  ·obtain⟨ii,hii⟩:∃ii,Lib.indexByte (s.data.toList.drop at') 123=ii:=⟨_,rfl⟩;have hlast:=HR.out.1.last (index_no 123 _ hneg);rw[hii] at hix hneg;obtain⟨sub2,hsub2⟩:∃sub2,s.extract frm s.size=sub2:=⟨_,rfl⟩;have hsl2:sub2.data.toList=s.data.toList.drop frm:=by rw[←hsub2,ext_lst,List.take_of_length_le (by rw[size_lst];exact Nat.le_refl _)]
   have hlen:=HR.out.1.len HL.out.2.2.2.1;have hW:=bldK_write B B built sub2 wr HR.out.2.bld (by
    have h1:sub2.size≤s.size:=by rw[←size_lst,hsl2,List.length_drop,size_lst];omega
    have h2:=hlen.1;rw[size_lst] at h2;omega) (by have:=HR.out.2.bld.lt;omega)
   have HX:=hidH6 hix hlast hsub hsub2 hsl2 hW;clear hix hlast hsub hsub2 hsl2 hW hsl hii
   go_wp2_with fail
   rw[HX.out.2.2.1];refine (HX.out.1 _).mono ?_;rintro e w1 ⟨rfl,rfl⟩
   go_wp2_with fail
   rw[HX.out.2.2.2.1];refine HX.out.2.2.2.2.2.mono ?_;rintro e w2 ⟨rfl,hb2,hB2,hk2⟩;have hF2:=HR.out.2.write hb2 hB2 hk2;have hS2:=bldF_stringK B B _ w2 hF2.bld (by have:=hF2.bld.lt;omega);have HY:=hidH2 hF2 hS2;clear hb2 hB2 hk2 hF2 hS2
   go_wp2_with fail
   refine HY.out.2.mono ?_;rintro e w3 ⟨rfl,hb3,hB3,hk3⟩;have hF3:=HY.out.1.write hb3 hB3 hk3;have HZ:=Lib.hid hF3;clear hb3 hB3 hk3 hF3
   go_wp2_with fail
   go_ret2
   obtain⟨t1,t2⟩:=HL.out.2.2.1 _ _ HX.out.2.1;rw[t1,t2];refine⟨u7,?_,by rw[HBB.out];exact HZ.out.below,by rw[HBB.out];exact HZ.out.row⟩
   show _=Ending.returned (.tuple #[.string ⟨(built++s.data.toList.drop frm).toArray⟩,u7])
   rw[←HX.out.2.2.2.2.1];rfl
  ·obtain⟨k,hii⟩:∃k:Nat,Lib.indexByte (s.data.toList.drop at') 123=k:=⟨(Lib.indexByte (s.data.toList.drop at') 123).toNat,by omega⟩;obtain⟨hfree,hkl,h123⟩:=index_free 123 _ k hii;rw[List.length_drop,size_lst] at hkl;have hskip:=HR.out.1.skip (k:=k) (by rw[size_lst];omega) hfree;obtain⟨sub3,hsub3⟩:∃sub3,s.extract (at'+k) s.size=sub3:=⟨_,rfl⟩;have hsl3:sub3.data.toList=s.data.toList.drop (at'+k):=by rw[←hsub3,ext_lst,List.take_of_length_le (by rw[size_lst];exact Nat.le_refl _)]
   have hask:=fun W=>asked_any sub3 W (by rw[←size_lst,hsl3,List.length_drop,size_lst];omega)
   rw[hsl3] at hask;rw[hii] at hix;cases ha:askedB (s.data.toList.drop (at'+k)) with
   | none =>
    rw[ha] at hask;have hone:=hskip.one (by rw[size_lst];omega) ha;have HX:=hidH5 hix hask hsub hsub3 hone;clear hix hask hsub hsub3 hone hskip hfree h123 hsl3 hsl hii ha hneg;unfold askedV at HX
    go_wp2_with fail
    rw[HX.out.2.2.1];refine (HX.out.1 _).mono ?_;rintro e w1 ⟨rfl,rfl⟩
    go_wp2_with fail
    rw[HX.out.2.2.2.1];refine (HX.out.2.1 _).mono ?_;rintro e w2 ⟨rfl,rfl⟩
    go_wp2_with fail
    go_roundg (gk-1-k)
    case measure=>omega
    case rel=>exact⟨frm,at'+k+1,built,ns,by omega,by omega,by omega,rfl,by go_num,by omega,HX.out.2.2.2.2,HR.out.2⟩
   | some a =>
    rw[ha] at hask;have haf:=asked_form ha;rw[List.length_drop,size_lst] at haf;have halen:=haf.2;have hnsz:(ofB a).size=a.length:=size_ofB a;obtain⟨n,hn'⟩:∃n,ofB a=n:=⟨_,rfl⟩;have hask':∀W,Calls Tryz.prog 204 #[.string sub3] W fun e w'=>e=.returned (.tuple #[.string n,.bool true])∧W=w':=by rw[←hn'];exact hask
    rw[hn'] at hnsz;have hlook:=HR.out.2.look (n:=n) (by omega);have HX:=hidH7 hix hask' hsub hsub3 hskip ha hn';clear hix hask hask' hsub hsub3 hskip hfree h123 hsl3 hsl hii ha hneg haf hn';cases hhas:hasN ns n
    ·rw[if_neg (by rw[hhas];decide),hhas] at hlook
     rcases getA_idx (l:=l) (n:=n) with ⟨hi,hg⟩|⟨q,b,hi,hb,hg,hnb⟩
     ·have HK:=hidH2 hg (addN_new hhas);have HK2:=Lib.hid hhas;clear hg hhas
      go_wp2_with fail
      rw[HX.out.2.2.1];refine (HX.out.1 _).mono ?_;rintro e w1 ⟨rfl,rfl⟩
      go_wp2_with fail
      rw[HX.out.2.2.2.1];refine (HX.out.2.1 _).mono ?_;rintro e w2 ⟨rfl,rfl⟩
      go_wp2_with fail
      refine (named_any n _).mono ?_;rintro e w2 ⟨rfl,rfl⟩;have HG:=Lib.hid (Holds.new w1 9 #[.string n]);have hb1:=(Below.refl w1.heap.size w1).alloc (Nat.le_refl _) (.cells #[.string n] 9);have hf1:=HR.out.2.later hb1;have hfn:=find_any (TwoS.below HL.out.1 (by rw[HBB.out];exact hf1.below)) (fun k hk=>by have h1:=HL.out.2.1 k hk;have h2:=hf1.below.size;rw[HBB.out] at h1 h2;omega) (by rw[HL.out.2.2.2.2];exact hn) HG.out;rw[hi] at hfn;have HF1:=hidH2 hf1 hfn;clear hb1 hf1 hfn
      go_wp2_with fail
      refine HF1.out.2.mono ?_;rintro e w2 ⟨rfl,hb2⟩;have hf2:=HF1.out.1.later hb2;obtain⟨w3,hup,hf3,hz3⟩:=hf2.named (n:=n) (by rw[HK2.out]) (by omega) (by omega);rw[hi] at hup;have HF3:=Lib.hid hf3;obtain⟨A',c',hu7,hcap⟩:=own_rowL hf3.row;subst hu7;have HB3:=hidH2 hf3 hf3.bld.lt;have hlb:=hf3.bld.lt;clear hb2 hf2 hf3 hz3 HF3
      go_upto_region 16 with (at_builtin;refine wpList_append_lies _ rfl _ _ 24 rfl B 9 HI.out.choose _ 1 16 txs_underA HI.out.choose_spec.1 HI.out.choose_spec.2.1 HI.out.choose_spec.2.2.1 HI.out.choose_spec.2.2.2 rfl (by omega) _ ns.length (rowTx ns) rfl (HB3.out.1.later ((Below.refl w3.heap.size w3).alloc (Nat.le_refl _) (.cells #[.string n] 9))).row ⟨w3.heap.size,0,none⟩ 1 1 [.string n] rfl rfl (World.news_of_block (cs:=#[.string n]) (t:=9) (fr:=(0,0)) (heap_alloc_new w3 _)) (by simp[Value.oneCell']) (by omega) (by unfold maxLen;omega) (by omega) (by simp;omega) _ rfl ?_;intro g2 k2 w4 ho4 hg4 hat4 hl4)
      have hf4:=(HB3.out.1.later ((Below.refl w3.heap.size w3).alloc (Nat.le_refl _) (.cells #[.string n] 9))).grow (Chg.grown hg4) ho4;have HF4:=Lib.hid hf4;clear ho4 hg4 hat4 hl4 hf4 hup
      go_wp2_with fail
      go_roundg (gk-(k+(a.length+2)))
      case measure=>omega
      case rel=>exact⟨frm,at'+k+(a.length+2),built,(ns++[n]),by omega,by omega,by omega,rfl,by go_num,by rw[List.length_append,List.length_singleton];omega,by rw[←HK.out.2,←HX.out.2.2.2.2.2.2];exact HX.out.2.2.2.2.1.none HX.out.2.2.2.2.2.1 (by rw[HX.out.2.2.2.2.2.2];exact HK.out.1),HF4.out⟩
     ·have HK:=hidH2 hg (addN_new hhas);have HK2:=Lib.hid hhas;obtain⟨sub4,hsub4⟩:∃sub4,s.extract frm (at'+k)=sub4:=⟨_,rfl⟩;have hsl4:sub4.data.toList=(s.data.toList.take (at'+k)).drop frm:=by rw[←hsub4,ext_lst]
      have hlen:=HX.out.2.2.2.2.1.len HL.out.2.2.2.1;rw[size_lst,←hsl4,size_lst] at hlen;have hwv:b.value.size≤1024:=HL.out.2.2.2.1 b (List.mem_of_getElem? hb);have hc4:=fun W nv' ms' ns' (h:Fl w B l nv' built ms' ns' W)=>h.calls sub4 (by omega)
      have hc5:=fun W nv' ms' ns' (h:Fl w B l nv' (built++sub4.data.toList) ms' ns' W)=>h.calls b.value (by rw[List.length_append,size_lst];omega)
      rw[hsl4] at hc4 hc5;obtain⟨A2,c2,heq,_,hcl⟩:=HL.out.1;injection heq with e1 e2 e3
      clear e2 e3;obtain⟨bb,off,hA,hSb,q0,q1⟩:=hcl q (atP b) (by rw[List.getElem?_map,hb];rfl);rw[←e1] at hA;subst hA;have hbw:=HL.out.2.1 bb hSb;rw[HBB.out] at hbw;have hval:∀W,Below B w W→W.cell? ⟨bb,off+q*2+1,none⟩=some (.string b.value):=fun W hW=>(hW.cell (p:=⟨bb,off+q*2+1,none⟩) hbw).trans q1
      have hql:q<nl:=by have:=(List.getElem?_eq_some_iff.1 hb).1;have:=HL.out.2.2.2.2;omega
      have HP:=hidH4 hsub4 hc4 hc5 hval;clear hnb hsub4 hsl4 hlen hc4 hc5 hcl e1 q0 q1 hval hSb hbw;clear hg hhas
      go_wp2_with fail
      rw[HX.out.2.2.1];refine (HX.out.1 _).mono ?_;rintro e w1 ⟨rfl,rfl⟩
      go_wp2_with fail
      rw[HX.out.2.2.2.1];refine (HX.out.2.1 _).mono ?_;rintro e w2 ⟨rfl,rfl⟩
      go_wp2_with fail
      refine (named_any n _).mono ?_;rintro e w2 ⟨rfl,rfl⟩;have HG:=Lib.hid (Holds.new w1 9 #[.string n]);have hb1:=(Below.refl w1.heap.size w1).alloc (Nat.le_refl _) (.cells #[.string n] 9);have hf1:=HR.out.2.later hb1;have hfn:=find_any (TwoS.below HL.out.1 (by rw[HBB.out];exact hf1.below)) (fun k hk=>by have h1:=HL.out.2.1 k hk;have h2:=hf1.below.size;rw[HBB.out] at h1 h2;omega) (by rw[HL.out.2.2.2.2];exact hn) HG.out;rw[hi] at hfn;have HF1:=hidH2 hf1 hfn;clear hb1 hf1 hfn
      go_wp2_with fail
      refine HF1.out.2.mono ?_;rintro e w2 ⟨rfl,hb2⟩;have hf2:=HF1.out.1.later hb2;obtain⟨w3,hup,hf3,hz3⟩:=hf2.named (n:=n) (by rw[HK2.out]) (by omega) (by omega);rw[hi] at hup;have HF3:=Lib.hid hf3;obtain⟨A',c',hu7,hcap⟩:=own_rowL hf3.row;subst hu7;have HB3:=hidH2 hf3 hf3.bld.lt;have hlb:=hf3.bld.lt;clear hb2 hf2 hf3 hz3 HF3
      go_upto_region 16 with (at_builtin;refine wpList_append_lies _ rfl _ _ 24 rfl B 9 HI.out.choose _ 1 16 txs_underA HI.out.choose_spec.1 HI.out.choose_spec.2.1 HI.out.choose_spec.2.2.1 HI.out.choose_spec.2.2.2 rfl (by omega) _ ns.length (rowTx ns) rfl (HB3.out.1.later ((Below.refl w3.heap.size w3).alloc (Nat.le_refl _) (.cells #[.string n] 9))).row ⟨w3.heap.size,0,none⟩ 1 1 [.string n] rfl rfl (World.news_of_block (cs:=#[.string n]) (t:=9) (fr:=(0,0)) (heap_alloc_new w3 _)) (by simp[Value.oneCell']) (by omega) (by unfold maxLen;omega) (by omega) (by simp;omega) _ rfl ?_;intro g2 k2 w4 ho4 hg4 hat4 hl4)
      have hf4:=(HB3.out.1.later ((Below.refl w3.heap.size w3).alloc (Nat.le_refl _) (.cells #[.string n] 9))).grow (Chg.grown hg4) ho4;have HF4:=Lib.hid hf4;clear ho4 hg4 hat4 hl4 hf4 hup
      go_wp2_with fail
      rw[HP.out.1];refine (HP.out.2.1 _ _ _ _ HF4.out).mono ?_;rintro e w5 ⟨rfl,hf5⟩;have q5:=HP.out.2.2.2 _ hf5.below;have HF5:=Lib.hid hf5;clear hf5
      go_wp2_with fail
      refine (HP.out.2.2.1 _ _ _ _ HF5.out).mono ?_;rintro e w6 ⟨rfl,hf6⟩;have HF6:=Lib.hid hf6;clear hf6
      go_wp2_with fail
      go_roundg (gk-(k+(a.length+2)))
      case measure=>omega
      case rel=>exact⟨at'+k+(a.length+2),at'+k+(a.length+2),_,(ns++[n]),by omega,by omega,Nat.le_refl _,by go_num,by go_num,by rw[List.length_append,List.length_singleton];omega,by rw[←HK.out.2,←HX.out.2.2.2.2.2.2];exact HX.out.2.2.2.2.1.some HX.out.2.2.2.2.2.1 (by rw[HX.out.2.2.2.2.2.2];exact HK.out.1),HF6.out⟩
    ·rw[if_pos hhas,hhas] at hlook
     rcases getA_idx (l:=l) (n:=n) with ⟨hi,hg⟩|⟨q,b,hi,hb,hg,hnb⟩
     ·have HK:=hidH2 hg (addN_old hhas);rw[hi] at hlook;clear hi hg hhas
      go_wp2_with fail
      rw[HX.out.2.2.1];refine (HX.out.1 _).mono ?_;rintro e w1 ⟨rfl,rfl⟩
      go_wp2_with fail
      rw[HX.out.2.2.2.1];refine (HX.out.2.1 _).mono ?_;rintro e w2 ⟨rfl,rfl⟩
      go_wp2_with fail
      go_roundg (gk-(k+(a.length+2)))
      case measure=>omega
      case rel=>exact⟨frm,at'+k+(a.length+2),built,ns,by omega,by omega,by omega,rfl,by go_num,by omega,by rw[←HK.out.2,←HX.out.2.2.2.2.2.2];exact HX.out.2.2.2.2.1.none HX.out.2.2.2.2.2.1 (by rw[HX.out.2.2.2.2.2.2];exact HK.out.1),HR.out.2⟩
     ·have HK:=hidH2 hg (addN_old hhas);rw[hi] at hlook;obtain⟨sub4,hsub4⟩:∃sub4,s.extract frm (at'+k)=sub4:=⟨_,rfl⟩;have hsl4:sub4.data.toList=(s.data.toList.take (at'+k)).drop frm:=by rw[←hsub4,ext_lst]
      have hlen:=HX.out.2.2.2.2.1.len HL.out.2.2.2.1;rw[size_lst,←hsl4,size_lst] at hlen;have hwv:b.value.size≤1024:=HL.out.2.2.2.1 b (List.mem_of_getElem? hb);have hc4:=fun W nv' ms' ns' (h:Fl w B l nv' built ms' ns' W)=>h.calls sub4 (by omega)
      have hc5:=fun W nv' ms' ns' (h:Fl w B l nv' (built++sub4.data.toList) ms' ns' W)=>h.calls b.value (by rw[List.length_append,size_lst];omega)
      rw[hsl4] at hc4 hc5;obtain⟨A2,c2,heq,_,hcl⟩:=HL.out.1;injection heq with e1 e2 e3
      clear e2 e3;obtain⟨bb,off,hA,hSb,q0,q1⟩:=hcl q (atP b) (by rw[List.getElem?_map,hb];rfl);rw[←e1] at hA;subst hA;have hbw:=HL.out.2.1 bb hSb;rw[HBB.out] at hbw;have hval:∀W,Below B w W→W.cell? ⟨bb,off+q*2+1,none⟩=some (.string b.value):=fun W hW=>(hW.cell (p:=⟨bb,off+q*2+1,none⟩) hbw).trans q1
      have hql:q<nl:=by have:=(List.getElem?_eq_some_iff.1 hb).1;have:=HL.out.2.2.2.2;omega
      have HP:=hidH4 hsub4 hc4 hc5 hval;clear hnb hsub4 hsl4 hlen hc4 hc5 hcl e1 q0 q1 hval hSb hbw;clear hi hg hhas
      go_wp2_with fail
      rw[HX.out.2.2.1];refine (HX.out.1 _).mono ?_;rintro e w1 ⟨rfl,rfl⟩
      go_wp2_with fail
      rw[HX.out.2.2.2.1];refine (HX.out.2.1 _).mono ?_;rintro e w2 ⟨rfl,rfl⟩
      go_wp2_with fail
      rw[HP.out.1];refine (HP.out.2.1 _ _ _ _ HR.out.2).mono ?_;rintro e w5 ⟨rfl,hf5⟩;have q5:=HP.out.2.2.2 _ hf5.below;have HF5:=Lib.hid hf5;clear hf5
      go_wp2_with fail
      refine (HP.out.2.2.1 _ _ _ _ HF5.out).mono ?_;rintro e w6 ⟨rfl,hf6⟩;have HF6:=Lib.hid hf6;clear hf6
      go_wp2_with fail
      go_roundg (gk-(k+(a.length+2)))
      case measure=>omega
      case rel=>exact⟨at'+k+(a.length+2),at'+k+(a.length+2),_,ns,by omega,by omega,Nat.le_refl _,by go_num,by go_num,by omega,by rw[←HK.out.2,←HX.out.2.2.2.2.2.2];exact HX.out.2.2.2.2.1.some HX.out.2.2.2.2.2.1 (by rw[HX.out.2.2.2.2.2.2];exact HK.out.1),HF6.out⟩
end Go.Proofs.YtkdknllcllhpgaaGreatDoor
