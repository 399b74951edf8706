/- part 11 -/
import Derived.Sort.Walk0
import Derived.Laws.Cover1
import Derived.Deep.AppendLies
import Derived.OrdersHeld
import Derived.Deep.RegionHeld
import Derived.Lib.IndexMore
import Derived.OwnWalk
import Derived.Laws.AppendOwnNone
import Derived.Lib.AppendZeros
import Derived.Test.YtkkebmciiiajeaaGreatDoorK0
import Derived.Test.YtkkebmciiiajeaaGreatDoorK10
set_option linter.unusedSimpArgs false
set_option linter.unusedVariables false
set_option maxHeartbeats 16000000
set_option maxRecDepth 100000
namespace Go.Bd
open Go.RowKit
def TwoS (w:World) (S:Nat→Prop) (v:Value) (l:List (ByteArray×ByteArray)):Prop :=
 ∃A c,v=.slice A l.length c∧l.length≤c∧∀(j:Nat) f,l[j]? = some f→∃b off,A=some ⟨b,off,none⟩∧S b∧w.cell? ⟨b,off+j*2,none⟩=some (.string f.1)∧w.cell? ⟨b,off+j*2+1,none⟩=some (.string f.2)
def atP (a:At):ByteArray×ByteArray:=(a.name,a.value)
def scP (a:Sc):ByteArray×ByteArray:=(a.name,a.text)
def AtS (w:World) (S:Nat→Prop) (v:Value) (l:List At):Prop:=TwoS w S v (l.map atP)
def ScS (w:World) (S:Nat→Prop) (v:Value) (l:List Sc):Prop:=TwoS w S v (l.map scP)
section
variable {w w':World} {S T:Nat→Prop} {v:Value} {l:List (ByteArray×ByteArray)}
theorem TwoS.chg (h:TwoS w S v l) (hc:Chg w w' T) (hT:∀k,S k→¬T k):TwoS w' S v l:=by
 obtain⟨A,c,h1,h2,h3⟩:=h;refine⟨A,c,h1,h2,fun j f hf=>?_⟩;obtain⟨b,off,h4,h5,h6,h7⟩:=h3 j f hf;exact⟨b,off,h4,h5,hc.cell (p:=⟨b,off+j*2,none⟩) (hT b h5) h6,hc.cell (p:=⟨b,off+j*2+1,none⟩) (hT b h5) h7⟩
theorem TwoS.below (h:TwoS w S v l) (hb:Below w.heap.size w w'):TwoS w' S v l:=h.chg (Chg.below hb (fun _=>False)) (fun _ _ h=>h)
theorem TwoS.nil (w:World) (S:Nat→Prop):TwoS w S (.slice none 0 0) []:=⟨none,0,rfl,Nat.le_refl _,fun j f h=>by simp at h⟩
theorem toL_eq (a b:ByteArray):(a.toList==b.toList)=decide (a=b):=by
 rw[Lib.toList_data,Lib.toList_data,Bool.eq_iff_iff];simp only[beq_iff_eq,decide_eq_true_eq];constructor
 ·intro h;cases a;cases b;simp at h;rw[h]
 ·intro h;rw[h]
end
def okV (c:UInt8):Bool:=decide (32≤c.toNat) && !(c==127)
theorem validB_eq (s:ByteArray):validB s.data.toList=(decide (s.size≤1024)&&s.data.toList.all okV):=by
 unfold validB;rw[size_lst];rfl
def idxA (l:List At) (n:ByteArray):Int:=if hasN (l.map (·.name)) n then (l.findIdx fun a=>decide (a.name=n):Nat) else -1
end Go.Bd
namespace Go.Proofs.YtkkebmciiiajeaaGreatDoor
open Go.RowKit Go.Bd
theorem all_take_ok (f:UInt8→Bool) (s:ByteArray) (k:Nat) (h:k<s.size):(s.data.toList.take (k+1)).all f=((s.data.toList.take k).all f&&f s[k]):=by
 have e:s[k]=s.data.toList[k]'(by simpa using h):=by
  first|rfl|simp[ByteArray.getElem_eq_getElem_data]
 rw[e,List.take_succ_eq_append_getElem (by simpa using h),List.all_append];simp
theorem all_not (f:UInt8→Bool) (s:ByteArray) (k:Nat) (h:k<s.size) (hf:f s[k]=false):s.data.toList.all f=false:=by
 have e:s[k]=s.data.toList[k]'(by simpa using h):=by
  first|rfl|simp[ByteArray.getElem_eq_getElem_data]
 rw[Bool.eq_false_iff];intro hA;rw[List.all_eq_true] at hA;have:=hA s[k] (by rw[e];exact List.getElem_mem _)
 rw[hf] at this;cases this
theorem valid_any (s:ByteArray) (w:World) (hs:s.size≤1000000000000):Calls Tryz.prog 60 #[.string s] w fun e w'=>e=.returned (.bool (validB s.data.toList))∧w=w':=by
 have HB:=Lib.hid (validB_eq s)
 go_enter Tryz.func60,Tryz.ntmps60
 go_wp2_with fail
 ·go_ret
  refine⟨ret_bool ?_,rfl⟩;rw[HB.out,decide_eq_false (by omega)];rfl
 ·have hl:s.size≤1024:=by omega
  go_loopg [9] s.size (fun gk i wr=>wr=w∧∃k:Nat,k+gk=s.size∧i=.int .i64 k∧Hid ((s.data.toList.take k).all okV=true))
  case atStart=>exact⟨rfl,0,by omega,rfl,Lib.hid rfl⟩
  case round =>
   obtain⟨rfl,k,hk,rfl,HA⟩:=hrel
   by_cases hlt:k<s.size
   ·by_cases h1:s[k].toNat<32
    ·have hn:Hid (okV s[k]=false):=Lib.hid (by unfold okV;rw[decide_eq_false (by omega)];rfl)
     go_wp2_with fail
     go_ret
     refine⟨ret_bool ?_,rfl⟩;rw[HB.out,all_not okV s k hlt hn.out,Bool.and_false]
    ·by_cases h2:s[k].toNat=127
     ·have hn:Hid (okV s[k]=false):=Lib.hid (by unfold okV;rw[u8_eq];simp[h2])
      go_wp2_with fail
      go_ret
      refine⟨ret_bool ?_,rfl⟩;rw[HB.out,all_not okV s k hlt hn.out,Bool.and_false]
     ·have h2i:((s[k].toNat:Int)==127)=false:=by rw[beq_eq_false_iff_ne];omega
      have hn:Hid (okV s[k]=true):=Lib.hid (by unfold okV;rw[u8_eq,decide_eq_true (by omega)];simp[h2])
      go_wp2_with fail
      go_roundg (gk-1)
      case measure=>omega
      case rel=>exact⟨rfl,k+1,by omega,by go_num,Lib.hid (by rw[all_take_ok okV s k hlt,HA.out,hn.out];rfl)⟩
   ·obtain rfl:k=s.size:=by omega
    go_wp2_with fail
    go_ret
    refine⟨ret_bool ?_,rfl⟩;have:=HA.out
    rw[List.take_of_length_le (by rw[size_lst];exact Nat.le_refl _)] at this;rw[HB.out,this,decide_eq_true hl];rfl
theorem named_any (n:ByteArray) (w:World):Calls Tryz.prog 45 #[.string n] w fun e w'=>e=.returned (.func (.func 81) #[] #[.pointer (some ⟨w.heap.size,0,none⟩)])∧w'=w.alloc (.cells #[.string n] 9):=by
 go_enter Tryz.func45,Tryz.ntmps45
 go_wp2
 go_ret
 exact⟨rfl,rfl⟩
theorem named1_any {w:World}{g:Nat}{n:ByteArray} (hg:Holds w g 9 #[.string n]) (a b:ByteArray) :
  Calls Tryz.prog 81 #[.agg #[.string a,.string b],.pointer (some ⟨g,0,none⟩)] w fun e w'=>e=.returned (.bool (decide (a=n)))∧w'=w.alloc (.cells #[.string a,.string b] 47):=by
 have c0:=(hg.alloc (.cells #[.string a,.string b] 47)).cell 0;simp at c0;have HE:=Lib.hid (toL_eq a n);clear hg
 go_enter Tryz.func81,Tryz.ntmps81
 go_wp2
 go_ret
 exact⟨ret_bool HE.out,rfl⟩
theorem find_none (f:Value) (w:World):Calls Tryz.prog 44 #[.slice none 0 0,f] w fun e w'=>e=.returned (.int .i64 (-1))∧w'=w:=by
 go_enter Tryz.func44,Tryz.ntmps44
 go_wp2_with fail
 go_loopg [9] 0 (fun _ i wr=>wr=w∧i=.int .i64 0)
 case atStart=>exact⟨rfl,rfl⟩
 case round =>
  obtain⟨rfl,rfl⟩:=hrel
  go_wp2_with fail
  go_ret
  exact⟨rfl,rfl⟩
theorem idx_hit {l:List At}{n:ByteArray}{k:Nat}{a:At} (hk:l[k]? = some a) (hn:a.name=n) (hno:∀b∈l.take k,b.name≠n):idxA l n=k:=by
 induction l generalizing k with
 | nil=>simp at hk
 | cons x l ih =>
  cases k with
  | zero =>
   cases hk
   simp[idxA,hasN,hn,List.findIdx_cons]
  | succ k =>
   have hx:x.name≠n:=hno x (by simp);have ih':=ih (k:=k) (by simpa using hk) (fun b hb=>hno b (by simp[hb]));unfold idxA at ih' ⊢;have h1:hasN (l.map (·.name)) n=true:=by
    by_cases h:hasN (l.map (·.name)) n=true
    ·exact h
    ·rw[if_neg h] at ih';omega
   rw[if_pos h1] at ih';have h2:hasN ((x::l).map (·.name)) n=true:=by
    unfold hasN at h1 ⊢;rw[List.map_cons,List.any_cons,h1,Bool.or_true]
   rw[if_pos h2,List.findIdx_cons];simp only[decide_eq_false hx,cond_false];omega
theorem idx_miss {l:List At}{n:ByteArray} (hno:∀b∈l,b.name≠n):idxA l n=-1:=by
 unfold idxA;rw[if_neg];intro h;unfold hasN at h;rw[List.any_eq_true] at h;obtain⟨x,hx,h1⟩:=h;obtain⟨b,hb,rfl⟩:=List.mem_map.1 hx;exact hno b hb (by simpa using h1)
theorem find_any {w:World}{S:Nat→Prop}{v:Value}{l:List At} (hl:AtS w S v l) (hS:∀k,S k→k<w.heap.size) (hn:l.length≤1000000000){g:Nat}{n:ByteArray} (hg:Holds w g 9 #[.string n]) :
  Calls Tryz.prog 44 #[v,.func (.func 81) #[] #[.pointer (some ⟨g,0,none⟩)]] w fun e w'=>e=.returned (.int .i64 (idxA l n))∧Below w.heap.size w w':=by
 obtain⟨A,c,rfl,hc,h1⟩:=hl;rw[List.length_map] at hc ⊢;obtain⟨nl,hnl⟩:∃nl,l.length=nl:=⟨_,rfl⟩;rw[hnl] at hc hn ⊢;have HN:=Lib.hid hnl;have H1:=Lib.hid h1;have HS:=Lib.hid hS;have HG:=Lib.hid hg;clear h1 hS hnl hg
 go_enter Tryz.func44,Tryz.ntmps44
 go_wp2_with fail
 go_loopg [9] nl (fun q i wr=>∃k:Nat,k+q=nl∧i=.int .i64 k∧Hid (Below w.heap.size w wr∧∀b∈l.take k,b.name≠n))
 case atStart=>exact⟨0,by omega,rfl,Lib.hid ⟨Below.refl _ _,fun b hb=>by simp at hb⟩⟩
 case round =>
  obtain⟨k,hk,rfl,HR⟩:=hrel
  by_cases hlt:k<nl
  ·obtain⟨a,ha⟩:∃a,l[k]? = some a:=⟨_,List.getElem?_eq_getElem (by rw[HN.out];exact hlt)⟩;obtain⟨b,off,rfl,hSb,q0,q1⟩:=H1.out k (atP a) (by rw[List.getElem?_map,ha];rfl);unfold atP at q0 q1;dsimp only at q0 q1;have r0:=(HR.out.1.cell (p:=⟨b,off+k*2,none⟩) (HS.out b hSb)).trans q0;have r1:=(HR.out.1.cell (p:=⟨b,off+k*2+1,none⟩) (HS.out b hSb)).trans q1;have HA:=Lib.hid ha;clear q0 q1 ha hSb;have hgg:=HG.out.below HR.out.1 HG.out.lt;have hX:∀W,Below wr.heap.size wr W→Calls Tryz.prog 81 #[.agg #[.string a.name,.string a.value],.pointer (some ⟨g,0,none⟩)] W fun e w'=>e=.returned (.bool (decide (a.name=n)))∧Below wr.heap.size wr w':=fun W hW=>(named1_any (hgg.below hW hgg.lt) a.name a.value).mono fun e w' h=>⟨h.1,by rw[h.2];exact hW.alloc hW.size _⟩
   have HX:=Lib.hid hX;clear hX hgg
   by_cases heq:a.name=n
   ·rw[decide_eq_true heq] at HX;have HQ:=Lib.hid heq;clear heq
    go_wp2_with (go_at_call 81;refine (HX.out _ ((Below.refl _ _).alloc (Nat.le_refl _) _)).mono ?_;rintro e w2 ⟨rfl,hb2⟩)
    go_ret
    rw[idx_hit HA.out HQ.out HR.out.2];exact⟨rfl,HR.out.1.trans (hb2.mono HR.out.1.size)⟩
   ·rw[decide_eq_false heq] at HX
    go_wp2_with (go_at_call 81;refine (HX.out _ ((Below.refl _ _).alloc (Nat.le_refl _) _)).mono ?_;rintro e w2 ⟨rfl,hb2⟩)
    go_roundg (gk-1)
    case measure=>omega
    case rel=>exact⟨k+1,by omega,by go_num,Lib.hid ⟨HR.out.1.trans (hb2.mono HR.out.1.size),fun b hb=>by
     rw[List.take_add_one,HA.out] at hb
     rcases List.mem_append.1 hb with h|h
     ·exact HR.out.2 b h
     ·rw[Option.toList_some,List.mem_singleton] at h;rw[h];exact heq⟩⟩
  ·obtain rfl:k=nl:=by omega
   go_wp2_with fail
   go_ret
   have hno:=HR.out.2;rw[List.take_of_length_le (by rw[HN.out];exact Nat.le_refl _)] at hno;rw[idx_miss hno];exact⟨rfl,HR.out.1⟩
theorem getA_idx {l:List At}{n:ByteArray}:(idxA l n=-1∧getA l n=none)∨∃(k:Nat) (a:At),idxA l n=k∧l[k]? = some a∧getA l n=some a.value∧a.name=n:=by
 induction l with
 | nil=>exact .inl ⟨rfl,rfl⟩
 | cons x l ih =>
  by_cases h:x.name=n
  ·right;refine⟨0,x,?_,rfl,by simp[getA,h],h⟩;exact idx_hit (l:=x::l) (k:=0) rfl h (fun b hb=>by simp at hb)
  ·have e:getA (x::l) n=getA l n:=by unfold getA;rw[List.find?_cons_of_neg (by simp[h])]
   rcases ih with ⟨h1,h2⟩|⟨k,a,h1,h2,h3,h4⟩
   ·left;refine⟨idx_miss fun b hb=>?_,e.trans h2⟩
    rcases List.mem_cons.1 hb with rfl|hb
    ·exact h
    ·intro hbn;unfold getA at h2;rw[Option.map_eq_none_iff,List.find?_eq_none] at h2;have:=h2 b hb
     simp[hbn] at this
   ·right;refine⟨k+1,a,?_,by simpa using h2,e.trans h3,h4⟩;unfold idxA at h1 ⊢;have h5:hasN (l.map (·.name)) n=true:=by
     by_cases h:hasN (l.map (·.name)) n=true
     ·exact h
     ·rw[if_neg h] at h1;omega
    have h6:hasN ((x::l).map (·.name)) n=true:=by
     unfold hasN at h5 ⊢;rw[List.map_cons,List.any_cons,h5,Bool.or_true]
    rw[if_pos h5] at h1;rw[if_pos h6,List.findIdx_cons];simp only[decide_eq_false h,cond_false];omega
def getV (o:Option ByteArray):Value:=match o with|some v=>.tuple #[.string v,.bool true]|none=>.tuple #[.string ⟨#[]⟩,.bool false]
theorem Get_any {w:World}{S:Nat→Prop}{v:Value}{l:List At} (hl:AtS w S v l) (hS:∀k,S k→k<w.heap.size) (hn:l.length≤1000000000) (n:ByteArray) :
  Calls Tryz.prog 21 #[v,.string n] w fun e w'=>e=.returned (getV (getA l n))∧Below w.heap.size w w':=by
 have hb1:=(Below.refl w.heap.size w).alloc (Nat.le_refl _) (.cells #[.string n] 9);have hF:=find_any (TwoS.below hl hb1) (fun k hk=>Nat.lt_of_lt_of_le (hS k hk) hb1.size) hn (Holds.new w 9 #[.string n]);obtain⟨A,c,rfl,hc,h1⟩:=hl;rw[List.length_map] at hc hF ⊢;have HF:=Lib.hid hF;clear hF
 rcases getA_idx (l:=l) (n:=n) with ⟨hi,hg⟩|⟨k,a,hi,ha,hg,hna⟩
 ·rw[hi] at HF;rw[hg];unfold getV;clear h1 hS
  go_enter Tryz.func21,Tryz.ntmps21
  go_wp2_with (first
   | (go_at_call 45;refine (named_any _ _).mono ?_;rintro e w2 ⟨rfl,rfl⟩)
   | (go_at_call 44;refine HF.out.mono ?_;rintro e w2 ⟨rfl,hb2⟩))
  go_ret2
  exact⟨rfl,hb1.trans (hb2.mono hb1.size)⟩
 ·rw[hi] at HF;rw[hg];unfold getV;obtain⟨b,off,rfl,hSb,q0,q1⟩:=h1 k (atP a) (by rw[List.getElem?_map,ha];rfl);unfold atP at q0 q1;dsimp only at q0 q1;have hkl:k<l.length:=(List.getElem?_eq_some_iff.1 ha).1;have hbw:=hS b hSb;clear h1 hS ha;have HQ:=Lib.hid q1;clear q0 q1
  go_enter Tryz.func21,Tryz.ntmps21
  go_wp2_with (first
   | (go_at_call 45;refine (named_any _ _).mono ?_;rintro e w2 ⟨rfl,rfl⟩)
   | (go_at_call 44;refine HF.out.mono ?_;rintro e w2 ⟨rfl,hb2⟩;have r1:=((hb1.trans (hb2.mono hb1.size)).cell (p:=⟨b,off+k*2+1,none⟩) hbw).trans HQ.out))
  go_ret2
  exact⟨rfl,hb1.trans (hb2.mono hb1.size)⟩
end Go.Proofs.YtkkebmciiiajeaaGreatDoor
namespace Go.Proofs.YtkkebmciiiajeaaGreatDoor
open Go.RowKit Go.Bd
theorem Find_any {w:World}{S:Nat→Prop}{v:Value}{l:List Sc} (hl:ScS w S v l) (hS:∀k,S k→k<w.heap.size) (hn:l.length≤1000000000) (n:ByteArray) :
  Calls Tryz.prog 22 #[v,.string n] w fun e w'=>e=.returned (getV (findS l n))∧Below w.heap.size w w':=by
 obtain⟨A,c,rfl,hc,h1⟩:=hl;rw[List.length_map] at hc ⊢;obtain⟨nl,hnl⟩:∃nl,l.length=nl:=⟨_,rfl⟩;rw[hnl] at hc hn ⊢;have HN:=Lib.hid hnl;have H1:=Lib.hid h1;have HS:=Lib.hid hS;clear h1 hS hnl
 go_enter Tryz.func22,Tryz.ntmps22
 go_wp2_with fail
 go_loopg [10] nl (fun q i wr=>∃k:Nat,k+q=nl∧i=.int .i64 k∧Hid (Below w.heap.size w wr∧∀b∈l.take k,b.name≠n))
 case atStart=>exact⟨0,by omega,rfl,Lib.hid ⟨Below.refl _ _,fun b hb=>by simp at hb⟩⟩
 case round =>
  obtain⟨k,hk,rfl,HR⟩:=hrel
  by_cases hlt:k<nl
  ·obtain⟨a,ha⟩:∃a,l[k]? = some a:=⟨_,List.getElem?_eq_getElem (by rw[HN.out];exact hlt)⟩;obtain⟨b,off,rfl,hSb,q0,q1⟩:=H1.out k (scP a) (by rw[List.getElem?_map,ha];rfl);unfold scP at q0 q1;dsimp only at q0 q1;have r0:=(HR.out.1.cell (p:=⟨b,off+k*2,none⟩) (HS.out b hSb)).trans q0;have r1:=(HR.out.1.cell (p:=⟨b,off+k*2+1,none⟩) (HS.out b hSb)).trans q1;have HA:=Lib.hid ha;clear q0 q1 ha hSb;obtain⟨an,han⟩:∃an,a.name=an:=⟨_,rfl⟩;obtain⟨tx,htx⟩:∃tx,a.text=tx:=⟨_,rfl⟩;rw[han] at r0;rw[htx] at r1;have HT:=hidH2 han htx;clear han htx
   by_cases heq:an=n
   ·have hE:(an.toList==n.toList)=true:=by rw[toL_eq,decide_eq_true heq]
    have HQ:=Lib.hid heq;clear heq
    go_wp2_with fail
    go_ret2
    have hf:findS l n=some tx:=by
     unfold findS;have h2:l.find? (fun s=>decide (s.name=n))=some a:=by
      rw[List.find?_eq_some_iff_append];refine⟨by simp[HT.out.1,HQ.out],l.take k,l.drop (k+1),?_,fun b hb=>by simpa using HR.out.2 b hb⟩;obtain⟨hk2,hk3⟩:=List.getElem?_eq_some_iff.1 HA.out;rw[←hk3,List.getElem_cons_drop,List.take_append_drop]
     rw[h2];exact congrArg some HT.out.2
    rw[hf];exact⟨rfl,HR.out.1.alloc HR.out.1.size _⟩
   ·have hE:(an.toList==n.toList)=false:=by rw[toL_eq,decide_eq_false heq]
    have HQ:=Lib.hid heq;clear heq
    go_wp2_with fail
    go_roundg (gk-1)
    case measure=>omega
    case rel=>exact⟨k+1,by omega,by go_num,Lib.hid ⟨HR.out.1.alloc HR.out.1.size _,fun b hb=>by
     rw[List.take_add_one,HA.out] at hb
     rcases List.mem_append.1 hb with h|h
     ·exact HR.out.2 b h
     ·rw[Option.toList_some,List.mem_singleton] at h;rw[h,HT.out.1];exact HQ.out⟩⟩
  ·obtain rfl:k=nl:=by omega
   go_wp2_with fail
   go_ret2
   have hno:=HR.out.2;rw[List.take_of_length_le (by rw[HN.out];exact Nat.le_refl _)] at hno;have hf:findS l n=none:=by
    unfold findS;rw[Option.map_eq_none_iff,List.find?_eq_none];exact fun b hb=>by simpa using hno b hb
   rw[hf];exact⟨rfl,HR.out.1⟩
theorem Below.drewA {w w':World} (h:Below w.heap.size w w') (n:Nat):Below w.heap.size w (w'.drewN n):=h.trans (((Chg.refl w' (fun _=>False)).drewN n).toBelow h.size (fun _ h=>h.elim))
theorem ltL (a b:ByteArray):Op.bytesLess a.toList b.toList=decide (a.data.toList<b.data.toList):=by
 rw[Lib.toList_data,Lib.toList_data,bytesLess_eq]
def someB (l:List At) (k:Nat):Bool:=(l.take k).all atB&&risesB (l.take k)
theorem rises_snoc:∀(l:List At) (a b:At),risesB (l++[a,b])=(risesB (l++[a])&&decide (a.name.data.toList<b.name.data.toList))
 | [],a,b=>by simp[risesB]
 | [x],a,b=>by simp[risesB]
 | x::y::l,a,b=>by
  have ih:=rises_snoc (y::l) a b
  show (decide (x.name.data.toList<y.name.data.toList)&&risesB ((y::l)++[a,b]))=((decide (x.name.data.toList<y.name.data.toList)&&risesB ((y::l)++[a]))&&_)
  rw[ih,Bool.and_assoc]
theorem rises_left:∀{l m:List At},risesB (l++m)=true→risesB l=true
 | [],_,_=>rfl
 | [_],_,_=>rfl
 | x::y::l,m,h=>by
  have h':(decide (x.name.data.toList<y.name.data.toList)&&risesB ((y::l)++m))=true:=h;rw[Bool.and_eq_true] at h'
  show (decide (x.name.data.toList<y.name.data.toList)&&risesB (y::l))=true
  rw[h'.1,rises_left h'.2];rfl
theorem check_all {l:List At}{k:Nat} (hk:someB l k=false):checkB l=false:=by
 unfold checkB;rw[Bool.eq_false_iff];intro h;rw[Bool.and_eq_true,Bool.and_eq_true] at h;have h1:(l.take k).all atB=true:=by
  rw[List.all_eq_true] at h ⊢;exact fun x hx=>h.1.2 x (List.mem_of_mem_take hx)
 have h2:risesB (l.take k)=true:=rises_left (m:=l.drop k) (by rw[List.take_append_drop];exact h.2);unfold someB at hk;rw[h1,h2] at hk;cases hk
theorem some_bad {l:List At}{k:Nat}{a:At} (h:l[k]? = some a) (ha:atB a=false):someB l (k+1)=false:=by
 unfold someB;rw[List.take_add_one,h,List.all_append];simp[ha]
theorem some_one {l:List At}{a:At} (h:l[0]? = some a):someB l 1=atB a:=by
 cases l with
 | nil=>simp at h
 | cons x l=>cases h;simp[someB,risesB]
theorem some_next {l:List At}{k:Nat}{a b:At} (ha:l[k]? = some a) (hb:l[k+1]? = some b) (hs:someB l (k+1)=true):someB l (k+2)=(atB b&&decide (a.name.data.toList<b.name.data.toList)):=by
 unfold someB at hs ⊢;have e1:l.take (k+1)=l.take k++[a]:=by rw[List.take_add_one,ha];rfl
 have e2:l.take (k+2)=l.take k++[a,b]:=by rw[List.take_add_one,hb,e1];simp
 rw[e1] at hs;rw[e2,rises_snoc];rw[Bool.and_eq_true] at hs;rw[hs.2,Bool.true_and];have h3:(l.take k++[a,b]).all atB=atB b:=by
  have h4:=hs.1;rw[List.all_append] at h4 ⊢;rw[Bool.and_eq_true] at h4;rw[h4.1];have h5:=h4.2;simp only[List.all_cons,List.all_nil,Bool.and_true] at h5 ⊢;rw[h5];simp
 rw[h3]
theorem Check_any {w:World}{S:Nat→Prop}{v:Value}{l:List At} (hl:AtS w S v l) (hS:∀k,S k→k<w.heap.size) (hn:l.length≤1000000000) (hz:∀a∈l,a.name.size≤100000∧a.value.size≤100000) :
  Calls Tryz.prog 32 #[v] w fun e w'=>e=.returned (.bool (checkB l))∧Below w.heap.size w w':=by
 obtain⟨A,c,rfl,hc,h1⟩:=hl;rw[List.length_map] at hc ⊢;obtain⟨nl,hnl⟩:∃nl,l.length=nl:=⟨_,rfl⟩;rw[hnl] at hc hn ⊢;have HN:=Lib.hid hnl;have H1:=Lib.hid h1;have HS:=Lib.hid hS;have HZ:=Lib.hid hz;clear h1 hS hnl hz
 by_cases hbig:64<nl
 ·have hb2:¬(nl:Int)≤64:=by omega
  have hb3:(64:Int)<nl:=by omega
  go_enter Tryz.func32,Tryz.ntmps32
  go_wp2_with fail
  go_ret
  refine⟨ret_bool ?_,Below.refl _ _⟩;unfold checkB;rw[HN.out,decide_eq_false (by omega)];rfl
 have hb2:¬(64:Int)<nl:=by omega
 go_enter Tryz.func32,Tryz.ntmps32
 go_wp2_with fail
 go_loopg [10] nl (fun q i wr=>∃k:Nat,k+q=nl∧i=.int .i64 k∧Hid (Below w.heap.size w wr∧someB l k=true))
 case atStart=>exact⟨0,by omega,rfl,Lib.hid ⟨Below.refl _ _,rfl⟩⟩
 case round =>
  obtain⟨k,hk,rfl,HR⟩:=hrel
  by_cases hlt:k<nl
  ·obtain⟨a,ha⟩:∃a,l[k]? = some a:=⟨_,List.getElem?_eq_getElem (by rw[HN.out];exact hlt)⟩;obtain⟨b,off,rfl,hSb,q0,q1⟩:=H1.out k (atP a) (by rw[List.getElem?_map,ha];rfl);unfold atP at q0 q1;dsimp only at q0 q1;have r0:=(HR.out.1.cell (p:=⟨b,off+k*2,none⟩) (HS.out b hSb)).trans q0;have r1:=(HR.out.1.cell (p:=⟨b,off+k*2+1,none⟩) (HS.out b hSb)).trans q1;have hza:=HZ.out a (List.mem_of_getElem? ha);have hbw:b<wr.heap.size:=Nat.lt_of_lt_of_le (HS.out b hSb) HR.out.1.size;have cn:=fun W=>name_any a.name W (by have:=hza.1;omega)
   have cv:=fun W=>valid_any a.value W (by omega)
   have hat:atB a=(nameB a.name.data.toList&&validB a.value.data.toList):=rfl;obtain⟨an,han⟩:∃an,a.name=an:=⟨_,rfl⟩;obtain⟨tx,htx⟩:∃tx,a.value=tx:=⟨_,rfl⟩;rw[han] at r0 cn hat;rw[htx] at r1 cv hat;obtain⟨bn,hbn⟩:∃bn,nameB an.data.toList=bn:=⟨_,rfl⟩;obtain⟨bv,hbv⟩:∃bv,validB tx.data.toList=bv:=⟨_,rfl⟩;rw[hbn] at cn hat;rw[hbv] at cv hat;have HA:=hidH4 ha han htx hat;have HC:=hidH2 cn cv;clear q0 q1 ha hSb han htx hbn hbv hza hat cn cv;cases bn with
   | false =>
    go_wp2_with (first
     | (go_at_call 52;refine (HC.out.1 _).mono ?_;rintro e w2 ⟨rfl,rfl⟩)
     | (go_at_call 60;refine (HC.out.2 _).mono ?_;rintro e w2 ⟨rfl,rfl⟩))
    go_ret
    exact⟨ret_bool (check_all (some_bad HA.out.1 HA.out.2.2.2)).symm,HR.out.1.alloc HR.out.1.size _⟩
   | true =>
    cases bv with
    | false =>
     go_wp2_with (first
      | (go_at_call 52;refine (HC.out.1 _).mono ?_;rintro e w2 ⟨rfl,rfl⟩)
      | (go_at_call 60;refine (HC.out.2 _).mono ?_;rintro e w2 ⟨rfl,rfl⟩))
     go_ret
     exact⟨ret_bool (check_all (some_bad HA.out.1 HA.out.2.2.2)).symm,HR.out.1.alloc HR.out.1.size _⟩
    | true =>
     cases k with
     | zero =>
      rw[Nat.zero_mul,Nat.add_zero] at r0 r1;rw[show ((0:Nat):Int)=0 from rfl]
      go_wp2_with (first
       | (go_at_call 52;refine (HC.out.1 _).mono ?_;rintro e w2 ⟨rfl,rfl⟩)
       | (go_at_call 60;refine (HC.out.2 _).mono ?_;rintro e w2 ⟨rfl,rfl⟩))
      refine wp_region_held_drew (S:=(fun w'=>True)) (by kernel_rfl) ?_ (fun hHeld0=>?_)
      ·(try dsimp only)
       all_goals exact trivial
      refine tkH 0 25 ?_;refine tkH 1 26 ?_;refine tkH 2 27 ?_;refine wpAnyH_take (i:=3) (oi:=⟨some 28,_,_,_,_,_⟩) (v:=undef) rfl (by kernel_rfl) (by kernel_rfl) (by kernel_rfl) (fun _ _ _ h=>h) (Or.inr ⟨by kernel_rfl,rfl⟩) (by assumption) ?_
      (try go_frame)
      refine wpAnyH_take (i:=4) (oi:=⟨some 29,_,_,_,_,_⟩) (v:=undef) rfl (by kernel_rfl) (by kernel_rfl) (by kernel_rfl) (fun _ _ _ h=>h) (Or.inr ⟨by kernel_rfl,rfl⟩) (by assumption) ?_
      (try go_frame)
      refine wpAnyH_take (i:=5) (oi:=⟨some 30,_,_,_,_,_⟩) (v:=undef) rfl (by kernel_rfl) (by kernel_rfl) (by kernel_rfl) (fun _ _ _ h=>h) (Or.inr ⟨by kernel_rfl,rfl⟩) (by assumption) ?_
      (try go_frame)
      refine wpAnyH_take (i:=6) (oi:=⟨some 31,_,_,_,_,_⟩) (v:=undef) rfl (by kernel_rfl) (by kernel_rfl) (by kernel_rfl) (fun _ _ _ h=>h) (Or.inr ⟨by kernel_rfl,rfl⟩) (by assumption) ?_
      (try go_frame)
      refine wpAnyH_take (i:=7) (oi:=⟨some 32,_,_,_,_,_⟩) (v:=undef) rfl (by kernel_rfl) (by kernel_rfl) (by kernel_rfl) (fun _ _ _ h=>h) (Or.inr ⟨by kernel_rfl,rfl⟩) (by assumption) ?_
      (try go_frame)
      refine wpAnyH_take (i:=8) (oi:=⟨some 33,_,_,_,_,_⟩) (v:=undef) rfl (by kernel_rfl) (by kernel_rfl) (by kernel_rfl) (fun _ _ _ h=>h) (Or.inr ⟨by kernel_rfl,rfl⟩) (by assumption) ?_
      (try go_frame)
      refine wpAnyH_take (i:=9) (oi:=⟨some 34,_,_,_,_,_⟩) (v:=undef) rfl (by kernel_rfl) (by kernel_rfl) (by kernel_rfl) (fun _ _ _ h=>h) (Or.inr ⟨by kernel_rfl,rfl⟩) (by assumption) ?_
      (try go_frame)
      refine wpAnyH_take (i:=10) (oi:=⟨some 35,_,_,_,_,_⟩) (v:=undef) rfl (by kernel_rfl) (by kernel_rfl) (by kernel_rfl) (fun _ _ _ h=>h) (Or.inr ⟨by kernel_rfl,rfl⟩) (by assumption) ?_
      (try go_frame)
      refine wpAnyH_take (i:=11) (oi:=⟨some 36,_,_,_,_,_⟩) (v:=undef) rfl (by kernel_rfl) (by kernel_rfl) (by kernel_rfl) (fun _ _ _ h=>h) (Or.inr ⟨by kernel_rfl,rfl⟩) (by assumption) ?_
      (try go_frame)
      refine tkH 12 37 ?_;refine wpAnyH_done (by kernel_rfl) ?_ _;go_wp2
      go_roundg (gk-1)
      case measure=>omega
      case rel=>exact⟨1,by omega,by go_num,Lib.hid ⟨by first|exact (HR.out.1.alloc HR.out.1.size _)|exact Below.drewA (HR.out.1.alloc HR.out.1.size _) 1,(some_one HA.out.1).trans HA.out.2.2.2⟩⟩
     | succ j =>
      obtain⟨p,hp⟩:∃p,l[j]? = some p:=⟨_,List.getElem?_eq_getElem (by rw[HN.out];omega)⟩;obtain⟨b',off',hbb,hSb',p0,p1⟩:=H1.out j (atP p) (by rw[List.getElem?_map,hp];rfl);injection hbb with hbb
      injection hbb with hb1 hb2'
      subst hb1 hb2';unfold atP at p0 p1;dsimp only at p0 p1;have s0:=(HR.out.1.cell (p:=⟨b,off+j*2,none⟩) (HS.out b hSb')).trans p0;obtain⟨pn,hpn⟩:∃pn,p.name=pn:=⟨_,rfl⟩;rw[hpn] at s0;have HP:=hidH2 hp hpn;clear p0 p1 hp hpn hSb';have e1:IntKind.i64.wrap ((j:Int)+1-1)=(j:Int):=by rw[show (j:Int)+1-1=j by omega];exact IntWalk.i64_in _ (by omega)
      have e2:((j:Int)+1-1)=(j:Int):=by omega
      have e3:IntKind.i64.wrap (j:Int)=(j:Int):=IntWalk.i64_in _ (by omega);have e4:¬((nl:Int)≤(j:Int)):=by omega
      have e5:(0:Int)<(j:Int)+1:=by omega
      have e6:(j:Int)<(nl:Int):=by omega
      have hlt2:=ltL pn an;obtain⟨bl,hbl⟩:∃bl,decide (pn.data.toList<an.data.toList)=bl:=⟨_,rfl⟩;rw[hbl] at hlt2;have HL:=Lib.hid hbl;clear hbl;cases bl with
      | false =>
       go_wp2_with (first
        | (go_at_call 52;refine (HC.out.1 _).mono ?_;rintro e w2 ⟨rfl,rfl⟩)
        | (go_at_call 60;refine (HC.out.2 _).mono ?_;rintro e w2 ⟨rfl,rfl⟩))
       go_quiet (fail)
       go_wp2
       go_ret
       refine⟨ret_bool (check_all (k:=j+2) ?_).symm,Below.drewA (HR.out.1.alloc HR.out.1.size _) _⟩;rw[some_next HP.out.1 HA.out.1 HR.out.2,HP.out.2,HA.out.2.1,HL.out,Bool.and_false]
      | true =>
       go_wp2_with (first
        | (go_at_call 52;refine (HC.out.1 _).mono ?_;rintro e w2 ⟨rfl,rfl⟩)
        | (go_at_call 60;refine (HC.out.2 _).mono ?_;rintro e w2 ⟨rfl,rfl⟩))
       go_quiet (fail)
       go_wp2
       go_roundg (gk-1)
       case measure=>omega
       case rel=>exact⟨j+2,by omega,by go_num,Lib.hid ⟨Below.drewA (HR.out.1.alloc HR.out.1.size _) _,by
        rw[some_next HP.out.1 HA.out.1 HR.out.2,HP.out.2,HA.out.2.1,HL.out,Bool.and_true];exact HA.out.2.2.2⟩⟩
  ·obtain rfl:k=nl:=by omega
   go_wp2_with fail
   go_ret
   refine⟨ret_bool ?_,HR.out.1⟩;have h:=HR.out.2;unfold someB at h;rw[List.take_of_length_le (by rw[HN.out];exact Nat.le_refl _)] at h;unfold checkB;rw[HN.out,decide_eq_true (by omega),Bool.true_and,h]
theorem allowed_any {w:World}{S:Nat→Prop}{v:Value}{l:List At} (hl:AtS w S v l) (hS:∀k,S k→k<w.heap.size) (hn:l.length≤1000000000) (hz:∀a∈l,a.name.size≤100000∧a.value.size≤100000) :
  Calls Tryz.prog 20 #[v] w fun e w'=>e=.returned (if checkB l then v else .slice none 0 0)∧Below w.heap.size w w':=by
 have hC:=Check_any hl hS hn hz;obtain⟨A,c,rfl,hc,h1⟩:=hl;rw[List.length_map] at hC ⊢;obtain⟨nl,hnl⟩:∃nl,l.length=nl:=⟨_,rfl⟩;obtain⟨b,hb⟩:∃b,checkB l=b:=⟨_,rfl⟩;rw[hnl,hb] at hC;rw[hnl,hb];have HC:=Lib.hid hC;clear hC h1 hS hz hb hnl hn hc;cases b
 all_goals
  go_enter Tryz.func20,Tryz.ntmps20
  go_wp2_with (go_at_call 32;refine HC.out.mono ?_;rintro e w2 ⟨rfl,hb⟩)
  go_ret
  exact⟨rfl,hb⟩
theorem diagA_info:(Tryz.prog.info? 51).map (fun i=>(i.zero,i.size,i.bytes))=some (some (.agg #[.string ⟨#[]⟩,.int .i64 0,.int .i64 0,.string ⟨#[]⟩]),4,48):=by kernel_rfl
theorem a_tell {w:World}{κ:Nat→Nat}{rb wm:Nat}{sv:Value}{v:Rv}{st:Ast}{stk:Stk} (h:ARd w κ rb wm sv v st stk) (f t:ByteArray) (no:Int) (k:Nat) (txt:ByteArray) (hl:st.diags.length≤1000000000) :
  Calls Tryz.prog 98 #[.pointer (some ⟨rb,0,none⟩),.agg #[.string f,.int .i64 no,.string t],.int .i64 (k:Int),.string txt] w fun e w'=>e=.returned (.tuple #[])∧∃κ' dv',ARd w' κ' rb wm sv { v with dv:=dv' } (st.tell ⟨f,no,t⟩ k txt) stk∧Mv w w' κ κ':=by
 obtain⟨ds,hds⟩:∃ds,st.diags=ds:=⟨_,rfl⟩;have hdg:=h.diags;rw[hds] at hdg hl;obtain⟨A,c,hdv,hlc⟩:=own_rowL hdg;obtain⟨i0,hi0,hz0,hz1,hz2⟩:=info_parts diagA_info;have hrl:=h.hold.lt;have hB1:=(Below.refl w.heap.size w).alloc (Nat.le_refl _) (.cells #[.string f,.int .i64 no,.string t] 156);have h1:=h.below hB1;have hX:=Holds.new w 156 #[.string f,.int .i64 no,.string t];have hM0:Mv w (w.alloc (.cells #[.string f,.int .i64 no,.string t] 156)) κ κ:=Mv.below hB1 κ;have hsz:(w.alloc (.cells #[.string f,.int .i64 no,.string t] 156)).heap.size=w.heap.size+1:=by simp
 obtain⟨n,hn⟩:∃n,w.heap.size=n:=⟨_,rfl⟩;have hlt0:=h.lt;rw[hn] at hX hsz hlt0;obtain⟨W1,hW1⟩:∃W1,w.alloc (.cells #[.string f,.int .i64 no,.string t] 156)=W1:=⟨_,rfl⟩;rw[hW1] at h1 hX hM0 hsz;have hdg1:=h1.diags;rw[hds,hdv] at hdg1;have d0:=hX.cell 0;have d1:=hX.cell 1;have d3:=h1.hold.cell 9;have f3:=h1.hold.free 9;rw[hdv] at d3;simp at d0 d1 d3;have hb1:rb<W1.heap.size:=h1.hold.lt;have hbx:n<W1.heap.size:=by omega
 have hkr:(Value.slice A ds.length c).ownBlock≠some rb:=fun e=>by have:=h.kG rb (by rw[hdv];exact e);have:=h.kR;omega
 have hkn:(Value.slice A ds.length c).ownBlock≠some n:=fun e=>by have h9:=h.kG n (by rw[hdv];exact e);have:=hlt0 n (by omega);omega
 have hrn:rb≠n:=by omega
 have HR:=hidH5 h1 hM0 hdv hds hdg1;have HZ:=hidH4 hi0 hz0 hz1 hz2;have HW1:=Lib.hid hW1;have HN:=Lib.hid hn;have HX:=Lib.hid hX;have hnW:w.heap.size≤n:=Nat.le_of_eq hn;have HSZ:=hidH2 hsz hlt0;clear h h1 hM0 hi0 hz0 hz1 hz2 hX hsz hdv hds hdg hdg1 hB1 hlt0;have e0:(W1.alloc (.cells #[.string f,.int .i64 no,.int .i64 (k:Int),.string txt] 51)).cell? ⟨n,0,none⟩=some (.string f):=by rw[World.cell?_alloc_lt _ _ _ hbx];exact d0
 have e1:(W1.alloc (.cells #[.string f,.int .i64 no,.int .i64 (k:Int),.string txt] 51)).cell? ⟨n,1,none⟩=some (.int .i64 no):=by rw[World.cell?_alloc_lt _ _ _ hbx];exact d1
 have e3:(W1.alloc (.cells #[.string f,.int .i64 no,.int .i64 (k:Int),.string txt] 51)).cell? ⟨rb,9,none⟩=some (.slice A ds.length c):=by rw[World.cell?_alloc_lt _ _ _ hb1];exact d3
 go_enter Tryz.func98,Tryz.ntmps98
 go_wp2
 (try rw[hW1])
 (try rw[hn])
 clear hW1 hn;refine wp_region_held_drew (S:=(fun w'=>w'.cell? ⟨n,0,none⟩=some (.string f)∧w'.cell? ⟨n,1,none⟩=some (.int .i64 no))) (by kernel_rfl) ?_ (fun hHeld0=>?_)
 ·(try dsimp only)
  first|exact⟨d0,d1⟩|exact⟨e0,e1⟩|exact⟨g0,g1⟩|exact⟨k0,k1⟩
 refine tkH 0 8 ?_;refine tkH 1 9 ?_;refine tkH 2 10 ?_;refine tkH 3 11 ?_;refine tkH 5 13 ?_;refine tkH 6 14 ?_;refine tkH 7 15 ?_;refine tkH 8 16 ?_;refine tkH 9 17 ?_;refine tkH 10 18 ?_;refine tkH 11 19 ?_;refine rdyH [4,12] ?_;refine AllReadyH.cons (o:=⟨some 12,_,_,_,_,_⟩) rfl (fun K hK=>?_) ?_
 ·skip
  go_simp;refine hK.out _ _ ?_ (fun hHeld1=>?_)
  ·(try dsimp only)
   first|exact⟨d0,d1⟩|exact⟨e0,e1⟩|exact⟨g0,g1⟩|exact⟨k0,k1⟩
  clear hK K hHeld0
  (try go_frame)
  refine rdyH [12] ?_;refine AllReadyH.cons (o:=⟨some 20,_,_,_,_,_⟩) rfl (fun K hK=>?_) AllReadyH.nil;go_simp;refine hK.out _ _ ?_ (fun hHeld2=>?_)
  ·(try dsimp only)
   first|exact⟨d0,d1⟩|exact⟨e0,e1⟩|exact⟨g0,g1⟩|exact⟨k0,k1⟩
  clear hK K hHeld1
  (try go_frame)
  refine rdyH [13] ?_;refine AllReadyH.cons (o:=⟨some 21,_,_,_,_,_⟩) rfl (fun K hK=>?_) AllReadyH.nil;refine step_append_lies _ (by rfl) _ _ _ (by rfl) 0 51 i0 _ 4 48 Tryz.underlying29 HZ.out.1 HZ.out.2.1 HZ.out.2.2.1 HZ.out.2.2.2 rfl (by omega) (.slice A ds.length c) ds.length (rowD ds) (by rfl) ((HR.out.2.2.2.2.alloc _).drew)
   ⟨W1.heap.size,0,none⟩ 1 1 [.string f,.int .i64 no,.int .i64 (k:Int),.string txt] (by rfl) (by rfl) (World.news_of_block (cs:=#[.string f,.int .i64 no,.int .i64 (k:Int),.string txt]) (t:=51) (fr:=(0,0)) (heap_alloc_new W1 _)) (by simp[Value.oneCell'])
   (by omega) (by unfold maxLen;omega) (by omega) (Nat.zero_le _) (W1.heap.size+1) (by simp) ?_
  intro g cap w2 ho2 hg2 hat2 hl2;have hC2:Chg W1 w2 (fun b=>(Value.slice A ds.length c).ownBlock=some b):=(((Chg.refl W1 _).alloc _).drew).trans (Chg.grown hg2) (fun _ _ h=>h.symm);have hgb:g≠rb:=fun e=>by
   rcases hat2 with h|h
   ·exact hkr (by rw[h,e])
   ·omega
  have hgn:g≠n:=fun e=>by
   rcases hat2 with h|h
   ·exact hkn (by rw[h,e])
   ·omega
  have hh2:=hC2.holds hkr HR.out.1.hold;have g0:=hC2.cell (p:=⟨n,0,none⟩) hkn d0;have g1:=hC2.cell (p:=⟨n,1,none⟩) hkn d1;have g3:=hC2.cell (p:=⟨rb,9,none⟩) hkr d3;have q3:=hh2.free 9;have k0:=cell_far (g:=rb) (i:=9) (j:=0) hrn (.slice (some ⟨g,0,none⟩) (ds.length+1) cap) g0;have k1:=cell_far (g:=rb) (i:=9) (j:=1) hrn (.slice (some ⟨g,0,none⟩) (ds.length+1) cap) g1;have HE:=hidH5 hC2 ho2 hat2 hh2 hl2;clear hC2 ho2 hat2 hh2 hg2 hl2;refine hK.out _ _ ?_ (fun hHeld3=>?_)
  ·(try dsimp only)
   first|exact⟨d0,d1⟩|exact⟨e0,e1⟩|exact⟨g0,g1⟩|exact⟨k0,k1⟩
  clear hK K hHeld2
  (try go_frame)
  refine tkH 14 22 ?_;refine tkH 15 23 ?_;refine rdyH [16] ?_;refine AllReadyH.cons rfl (fun K hK=>?_) AllReadyH.nil;go_simp;refine hK.out _ _ ?_ (fun hHeld4=>?_)
  ·(try dsimp only)
   first|exact⟨d0,d1⟩|exact⟨e0,e1⟩|exact⟨g0,g1⟩|exact⟨k0,k1⟩
  clear hK K hHeld3
  (try go_frame)
  refine wpAnyH_done (by kernel_rfl) ?_ _;go_wp2
  go_end0
  exact⟨rfl,_,_,tell_done HR.out.1 HR.out.2.2.1 HR.out.2.2.2.1 HE.out.1 HE.out.2.1 HE.out.2.2.1 HE.out.2.2.2.1 HE.out.2.2.2.2 hgb (d:=⟨f,no,k,txt⟩),HR.out.2.1.trans (tell_mv HR.out.1 HR.out.2.2.1 HR.out.2.2.2.1 HE.out.1 HE.out.2.2.1 HE.out.2.2.2.2)⟩
 refine AllReadyH.cons (o:=⟨some 20,_,_,_,_,_⟩) rfl (fun K hK=>?_) AllReadyH.nil;go_simp;refine hK.out _ _ ?_ (fun hHeld1=>?_)
 ·(try dsimp only)
  first|exact⟨d0,d1⟩|exact⟨e0,e1⟩|exact⟨g0,g1⟩|exact⟨k0,k1⟩
 clear hK K hHeld0
 (try go_frame)
 refine rdyH [4] ?_;refine AllReadyH.cons (o:=⟨some 12,_,_,_,_,_⟩) rfl (fun K hK=>?_) AllReadyH.nil;go_simp;refine hK.out _ _ ?_ (fun hHeld2=>?_)
 ·(try dsimp only)
  first|exact⟨d0,d1⟩|exact⟨e0,e1⟩|exact⟨g0,g1⟩|exact⟨k0,k1⟩
 clear hK K hHeld1
 (try go_frame)
 refine rdyH [13] ?_;refine AllReadyH.cons (o:=⟨some 21,_,_,_,_,_⟩) rfl (fun K hK=>?_) AllReadyH.nil;refine step_append_lies _ (by rfl) _ _ _ (by rfl) 0 51 i0 _ 4 48 Tryz.underlying29 HZ.out.1 HZ.out.2.1 HZ.out.2.2.1 HZ.out.2.2.2 rfl (by omega) (.slice A ds.length c) ds.length (rowD ds) (by rfl) ((HR.out.2.2.2.2.alloc _).drew)
  ⟨W1.heap.size,0,none⟩ 1 1 [.string f,.int .i64 no,.int .i64 (k:Int),.string txt] (by rfl) (by rfl) (World.news_of_block (cs:=#[.string f,.int .i64 no,.int .i64 (k:Int),.string txt]) (t:=51) (fr:=(0,0)) (heap_alloc_new W1 _)) (by simp[Value.oneCell'])
  (by omega) (by unfold maxLen;omega) (by omega) (Nat.zero_le _) (W1.heap.size+1) (by simp) ?_
 intro g cap w2 ho2 hg2 hat2 hl2;have hC2:Chg W1 w2 (fun b=>(Value.slice A ds.length c).ownBlock=some b):=(((Chg.refl W1 _).alloc _).drew).trans (Chg.grown hg2) (fun _ _ h=>h.symm);have hgb:g≠rb:=fun e=>by
  rcases hat2 with h|h
  ·exact hkr (by rw[h,e])
  ·omega
 have hgn:g≠n:=fun e=>by
  rcases hat2 with h|h
  ·exact hkn (by rw[h,e])
  ·omega
 have hh2:=hC2.holds hkr HR.out.1.hold;have g0:=hC2.cell (p:=⟨n,0,none⟩) hkn d0;have g1:=hC2.cell (p:=⟨n,1,none⟩) hkn d1;have g3:=hC2.cell (p:=⟨rb,9,none⟩) hkr d3;have q3:=hh2.free 9;have k0:=cell_far (g:=rb) (i:=9) (j:=0) hrn (.slice (some ⟨g,0,none⟩) (ds.length+1) cap) g0;have k1:=cell_far (g:=rb) (i:=9) (j:=1) hrn (.slice (some ⟨g,0,none⟩) (ds.length+1) cap) g1;have HE:=hidH5 hC2 ho2 hat2 hh2 hl2;clear hC2 ho2 hat2 hh2 hg2 hl2;refine hK.out _ _ ?_ (fun hHeld3=>?_)
 ·(try dsimp only)
  first|exact⟨d0,d1⟩|exact⟨e0,e1⟩|exact⟨g0,g1⟩|exact⟨k0,k1⟩
 clear hK K hHeld2
 (try go_frame)
 refine tkH 14 22 ?_;refine tkH 15 23 ?_;refine rdyH [16] ?_;refine AllReadyH.cons rfl (fun K hK=>?_) AllReadyH.nil;go_simp;refine hK.out _ _ ?_ (fun hHeld4=>?_)
 ·(try dsimp only)
  first|exact⟨d0,d1⟩|exact⟨e0,e1⟩|exact⟨g0,g1⟩|exact⟨k0,k1⟩
 clear hK K hHeld3
 (try go_frame)
 refine wpAnyH_done (by kernel_rfl) ?_ _;go_wp2
 go_end0
 exact⟨rfl,_,_,tell_done HR.out.1 HR.out.2.2.1 HR.out.2.2.2.1 HE.out.1 HE.out.2.1 HE.out.2.2.1 HE.out.2.2.2.1 HE.out.2.2.2.2 hgb (d:=⟨f,no,k,txt⟩),HR.out.2.1.trans (tell_mv HR.out.1 HR.out.2.2.1 HR.out.2.2.2.1 HE.out.1 HE.out.2.2.1 HE.out.2.2.2.2)⟩
end Go.Proofs.YtkkebmciiiajeaaGreatDoor
namespace Go.Bd
open Go.RowKit Go.Maps Go.WideMaps
def lkF (es:List Fe) (s:ByteArray) (z:Value):Value:=match findF es s with|some e=>e.v|none=>z
theorem FsMap.lookz {w:World}{P:Program}{K T E bm:Nat}{es:List Fe} (h:FsMap w P K bm es) (hk:P.underlying K=some .string) (ht:P.underlying T=some (.map K E)){z:Value} (hz:(zeroValue E).run P w=.ok z w){s:ByteArray} (hs:s.size≤maxLen) :
  (Instr.lookup T (.map (some bm)) (.string s) false).run P w=.ok (lkF es s z) w:=by
 unfold lkF;obtain⟨D,h1,_,_,h4⟩:=h;obtain⟨v,ps,hrun,hv⟩:=h1.lookup (string_keyed hk) ht hz rfl (keyOf_string_mk hk hs);rw[hrun];have e1:=h4 s (.held z);unfold nameL at e1;rw[e1] at hv;simp only[heldR,Option.some.injEq,Prod.mk.injEq] at hv
 congr 1
 split at hv<;>simp_all
theorem index_cut (c:UInt8):∀s:Bs,(Lib.index s [c]=-1∧cutB c s=none)∨∃k:Nat,Lib.index s [c]=k∧cutB c s=some (s.take k,s.drop (k+1))
 | []=>.inl ⟨rfl,rfl⟩
 | b::l=>by
  have e:Lib.index (b::l) [c]=if (c==b)=true then 0 else if Lib.index l [c] == -1 then -1 else Lib.index l [c]+1:=by
   show (if List.isPrefixOf [c] (b::l) then (0:Int) else _)=_
   simp[List.isPrefixOf]
  unfold cutB
  by_cases h:c=b
  ·right;refine⟨0,?_,?_⟩
   ·exact e.trans (if_pos (by simp[h]))
   ·rw[if_pos (by simp[h])];rfl
  ·have h1:¬(c==b)=true:=by simpa using h
   have h2:¬(b==c)=true:=by simpa using fun e=>h e.symm
   rw[if_neg h1] at e;rw[if_neg h2]
   rcases index_cut c l with ⟨h3,h4⟩|⟨k,h3,h4⟩
   ·left;rw[e,h3,h4];exact⟨by simp,rfl⟩
   ·right;refine⟨k+1,?_,?_⟩
    ·rw[e,h3,if_neg (by rw[beq_iff_eq];omega)];rfl
    ·rw[h4];rfl
theorem acut_none {c:UInt8}{s:Bs} (h:cutB c s=none):Lib.cut s [c]=(s,[],false):=by
 unfold Lib.cut
 rcases index_cut c s with ⟨h1,h2⟩|⟨k,h1,h2⟩
 ·rw[h1,if_neg (by omega)]
 ·rw[h] at h2;cases h2
theorem acut_some {c:UInt8}{s a t:Bs} (h:cutB c s=some (a,t)):Lib.cut s [c]=(a,t,true):=by
 unfold Lib.cut
 rcases index_cut c s with ⟨h1,h2⟩|⟨k,h1,h2⟩
 ·rw[h] at h2;cases h2
 ·rw[h] at h2;cases h2;rw[h1,if_pos (by omega)];simp
theorem pre_eq (c:UInt8) (hc:c≠0) (s:Bs):Lib.hasPrefix s [c]=(s.headD 0==c):=by
 unfold Lib.hasPrefix;cases s with
 | nil =>
  show false=((0:UInt8)==c)
  rw[eq_comm,beq_eq_false_iff_ne];exact fun e=>hc e.symm
 | cons b l =>
  show ((c==b)&&List.isPrefixOf [] l)=(b==c)
  rw[Bool.eq_iff_iff];constructor
  ·intro h;rw[Bool.and_eq_true,beq_iff_eq] at h;exact beq_iff_eq.2 h.1.symm
  ·intro h;rw[beq_iff_eq] at h;subst h;simp[List.isPrefixOf]
theorem trim_pre (c:UInt8) (s:Bs) (h:Lib.hasPrefix s [c]=true):Lib.trimPrefix s [c]=s.tail:=by
 unfold Lib.trimPrefix;rw[if_pos h];simp
theorem suf_eq (c:UInt8) (hc:c≠0) (s:Bs):Lib.hasSuffix s [c]=(s.getLastD 0==c):=by
 unfold Lib.hasSuffix;rw[Bool.eq_iff_iff,List.isSuffixOf_iff_suffix,beq_iff_eq]
 rcases List.eq_nil_or_concat s with h|⟨l,b,h⟩
 ·subst h;constructor
  ·intro h;have:=h.length_le;simp at this
  ·intro h;exact absurd h.symm hc
 ·subst h;rw[List.concat_eq_append,List.getLastD_concat];constructor
  ·rintro⟨t,ht⟩;have:=congrArg List.getLast? ht
   simp at this;exact this.symm
  ·rintro rfl;exact⟨l,rfl⟩
theorem trim_suf (c:UInt8) (s:Bs) (h:Lib.hasSuffix s [c]=true):Lib.trimSuffix s [c]=s.dropLast:=by
 unfold Lib.trimSuffix;rw[if_pos h,List.dropLast_eq_take];rfl
def signB:Nat→Bs
 | 0=>[]
 | 1=>[33]
 | 2=>[61]
 | _=>[33,61]
def splitV (r:Nat×Bs×Bs):Value:=.tuple #[.string (ofB (signB r.1)),.string (ofB r.2.1),.string (ofB r.2.2),.bool (nameB r.2.1)]
theorem cutB_le {c:UInt8}{s a b:Bs} (h:cutB c s=some (a,b)):a.length≤s.length∧b.length≤s.length:=by
 have:=cutB_len h
 omega
end Go.Bd
namespace Go.Proofs.YtkkebmciiiajeaaGreatDoor
open Go.RowKit Go.Bd
theorem set_under:Tryz.prog.underlying 81=some (.map 9 91):=by kernel_rfl
theorem set_zero (w:World):(zeroValue 91).run Tryz.prog w=.ok (.agg #[]) w:=by kernel_rfl
theorem results_tmp4 {fn:Func}{t u v x:Tmp} (h:fn.results=#[.tmp t,.tmp u,.tmp v,.tmp x]) (tmps:Array Value) (P:Program) (w:World) :
  (results fn tmps).run P w=.ok (.tuple #[tmps.getD t undef,tmps.getD u undef,tmps.getD v undef,tmps.getD x undef]) w:=by
 simp[results,h]
theorem set_look {w:World}{bm:Nat}{l:List ByteArray} (h:FsMap w Tryz.prog tTx bm (setFe l)) (n:ByteArray) (hn:n.size≤1000000000) :
  (Instr.lookup 81 (.map (some bm)) (.string n) true).run Tryz.prog w=.ok (.tuple #[.agg #[],.bool (hasN l n)]) w:=by
 rw[FsMap.lookz_ok h str_under set_under (set_zero w) (s:=n) (by unfold maxLen;omega),findF_set];cases hf:findF (setFe l) n with
 | none=>rfl
 | some e =>
  have:=List.mem_of_find?_eq_some hf
  unfold setFe at this;obtain⟨x,_,rfl⟩:=List.mem_map.1 this;rfl
theorem set_store {w:World}{bm:Nat}{l:List ByteArray} (h:FsMap w Tryz.prog tTx bm (setFe l)) (hu:Uniq (setFe l)) (n:ByteArray) (hn:n.size≤1000000000) (hl:l.length≤1000000000000) :
  ∃w',(Instr.mapUpdate 81 (.map (some bm)) (.string n) (.agg #[])).run Tryz.prog w=.ok () w'∧FsMap w' Tryz.prog tTx bm (setFe (putN l n))∧Chg w w' (fun b=>b=bm)∧w'.heap.size=w.heap.size∧Uniq (setFe (putN l n)):=by
 obtain⟨w',h1,h2,h3,h4⟩:=h.store hu str_under set_under (by rw[set_len];unfold maxLen;omega) ⟨n,.agg #[],[]⟩ (by show n.size≤_;unfold maxLen;omega);exact⟨w',h1,by rw[set_put];exact h2,h3,h4,by rw[set_put];exact hu.put _⟩
theorem a_ask {w:World}{κ:Nat→Nat}{rb wm:Nat}{sv:Value}{v:Rv}{st:Ast}{stk:Stk} (h:ARd w κ rb wm sv v st stk) (n:ByteArray) (hn:n.size≤1000000000) (ha:st.asked.length≤1000000000000) :
  Calls Tryz.prog 99 #[.pointer (some ⟨rb,0,none⟩),.string n] w fun e w'=>e=.returned (.tuple #[])∧ARd w' κ rb wm sv v (st.ask n) stk∧Mv w w' κ κ:=by
 have c5:=h.hold.cell 5;have c6:=h.hold.cell 6;simp at c5 c6;have hL:=set_look h.done n hn;have hB:=(Below.refl w.heap.size w).alloc (Nat.le_refl _) (.cells #[] 91);have h1:=h.below hB;have hrl:=h.hold.lt;have e6:=h1.hold.cell 6;simp at e6;obtain⟨w2,r2,m2,k2,z2,u2⟩:=set_store h1.asked h1.uA n hn ha;have hM:Rest (w.alloc (.cells #[] 91)) w2 κ 4 κ:=⟨k2.mono (fun k _ hk=>.inr (by rw[show k=v.am from hk];exact h.kA)),fun _ _=>rfl,fun k hk=>by rw[z2];exact h1.lt k hk⟩;have hh2:Holds w2 rb tAr #[sv,v.av,.map (some wm),v.ov,.int .i64 (st.count:Int),.map (some v.dm),.map (some v.am),.map (some v.bm),v.lv,v.dv,v.fv]:=k2.holds (fun e=>by have:=h.kA;have:=h.kR;rw[show rb=v.am from e] at this;omega) h1.hold;have HA:=hidH4 (h1.set_asked hM hh2 m2 u2) ((Mv.below hB κ).trans (hM.mv (by decide))) h1 (Mv.below hB κ);obtain⟨b,hb⟩:∃b,hasN st.done n=b:=⟨_,rfl⟩;rw[hb] at hL;have e:st.ask n=if b=true then st else { st with asked:=putN st.asked n }:=by unfold Ast.ask;rw[hb]
 rw[e];clear h h1 hM hh2 m2 u2 k2 hB hb e z2;cases b
 ·go_enter Tryz.func99,Tryz.ntmps99
  go_wp2
  go_end0
  exact⟨rfl,HA.out.1,HA.out.2.1⟩
 ·go_enter Tryz.func99,Tryz.ntmps99
  go_wp2
  go_end0
  exact⟨rfl,HA.out.2.2.1,HA.out.2.2.2⟩
theorem split_any (s:ByteArray) (w:World) (hs:s.size≤100000){m:Int} (hm:Glob m w) :
  Calls Tryz.prog 139 #[.string s] w fun e w'=>e=.returned (splitV (splitC s.data.toList))∧Below w.heap.size w w':=by
 have hp:=Tryz.strings_CutPrefix s ⟨#[33]⟩ w;have hc:=Tryz.strings_Cut s ⟨#[61]⟩ m w (by omega) hm.1;have e1:(⟨#[33]⟩:ByteArray).data.toList=[33]:=rfl;have e2:(⟨#[61]⟩:ByteArray).data.toList=[61]:=rfl;rw[e1] at hp;rw[e2] at hc;obtain⟨l,hl⟩:∃l,s.data.toList=l:=⟨_,rfl⟩;have hz:l.length≤100000:=by rw[←hl,size_lst];exact hs
 rw[hl] at hp hc ⊢;have hn:∀(b:Bs) w,b.length≤100000→Calls Tryz.prog 52 #[.string ⟨b.toArray⟩] w fun e w'=>e=.returned (.bool (nameB b))∧w=w':=fun b w h=>by
  have:=name_any ⟨b.toArray⟩ w (by have:=size_ofB b;unfold ofB at this;omega)
  simpa using this
 have HNm:=Lib.hid hn;clear hn hm e1 e2 hl
 by_cases h1:Lib.hasPrefix l [33]=true
 ·rw[h1,trim_pre 33 l h1] at hp;have hx:splitC l=(1,l.tail,[]):=by unfold splitC;rw[if_pos (by rw[←pre_eq 33 (by decide)];exact h1)]
  have hlt:l.tail.length≤100000:=by rw[List.length_tail];omega
  rw[hx];unfold splitV signB ofB;dsimp only;have HP:=Lib.hid hp;clear hp hc h1 hx
  go_enter Tryz.func139,Tryz.ntmps139
  go_wp2_with (first
   | (go_at_call 177;refine HP.out.mono ?_;rintro e w2 ⟨rfl,rfl⟩)
   | (go_at_call 52;refine (HNm.out _ _ hlt).mono ?_;rintro e w2 ⟨rfl,rfl⟩))
  (try simp only[Exit.inBlock,Exit.then]);refine bodyPost_ret (results_tmp4 rfl _ _ _) rfl ?_
  exact⟨rfl,Below.refl _ _⟩
 ·have h1':Lib.hasPrefix l [33]=false:=by simpa using h1
  rw[h1'] at hp;have hx0:¬(l.headD 0==33)=true:=by rw[←pre_eq 33 (by decide)];exact h1
  have HP:=Lib.hid hp;clear hp h1 h1';cases hcut:cutB 61 l with
  | none =>
   rw[acut_none hcut] at hc;have hx:splitC l=(0,l,[]):=by unfold splitC;rw[if_neg hx0,hcut]
   rw[hx];unfold splitV signB ofB;dsimp only at hc ⊢;have HC:=Lib.hid hc;clear hc hx0 hcut hx
   go_enter Tryz.func139,Tryz.ntmps139
   go_wp2_with (first
    | (go_at_call 177;refine HP.out.mono ?_;rintro e w2 ⟨rfl,rfl⟩)
    | (go_at_call 187;refine HC.out.mono ?_;rintro e w2 ⟨rfl,kq,rfl⟩)
    | (go_at_call 52;refine (HNm.out _ _ hz).mono ?_;rintro e w2 ⟨rfl,rfl⟩))
   (try simp only[Exit.inBlock,Exit.then]);refine bodyPost_ret (results_tmp4 rfl _ _ _) rfl ?_
   exact⟨rfl,Below.ofDrew _ kq⟩
  | some p =>
   obtain⟨a,t⟩:=p;have hlen:=cutB_le hcut;rw[acut_some hcut] at hc;have hx:splitC l=if (a.getLastD 0==33)=true then (3,a.dropLast,t) else (2,a,t):=by unfold splitC;rw[if_neg hx0,hcut]
   dsimp only at hc;rw[hx];have hsx:∀w,Calls Tryz.prog 188 #[.string ⟨a.toArray⟩,.string ⟨#[33]⟩] w fun e w'=>e=.returned (.tuple #[.string ⟨(Lib.trimSuffix a [33]).toArray⟩,.bool (Lib.hasSuffix a [33])])∧w'=w:=fun w=>by
    have:=Tryz.strings_CutSuffix ⟨a.toArray⟩ ⟨#[33]⟩ w (by have:=size_ofB a;unfold ofB at this;omega)
    simpa using this
   have HC:=Lib.hid hc;clear hc hx0 hcut hx
   by_cases h2:Lib.hasSuffix a [33]=true
   focus
    rw[if_pos (by rw[←suf_eq 33 (by decide)];exact h2)];rw[h2,trim_suf 33 a h2] at hsx;have hdl:a.dropLast.length≤100000:=by rw[List.length_dropLast];omega
    unfold splitV signB ofB;dsimp only;have HS:=Lib.hid hsx;clear hsx h2
   rotate_left
   focus
    have h2':Lib.hasSuffix a [33]=false:=by simpa using h2
    rw[if_neg (by rw[←suf_eq 33 (by decide)];exact h2)];rw[h2'] at hsx;have hdl:a.length≤100000:=by omega
    unfold splitV signB ofB;dsimp only;have HS:=Lib.hid hsx;clear hsx h2 h2'
   rotate_left
   all_goals
    go_enter Tryz.func139,Tryz.ntmps139
    go_wp2_with (first
     | (go_at_call 177;refine HP.out.mono ?_;rintro e w2 ⟨rfl,rfl⟩)
     | (go_at_call 187;refine HC.out.mono ?_;rintro e w2 ⟨rfl,kq,rfl⟩)
     | (go_at_call 188;refine (HS.out _).mono ?_;rintro e w2 ⟨rfl,rfl⟩)
     | (go_at_call 52;refine (HNm.out _ _ hdl).mono ?_;rintro e w2 ⟨rfl,rfl⟩))
    (try simp only[Exit.inBlock,Exit.then]);refine bodyPost_ret (results_tmp4 rfl _ _ _) rfl ?_
    exact⟨rfl,Below.ofDrew _ kq⟩
end Go.Proofs.YtkkebmciiiajeaaGreatDoor
namespace Go.Bd
open Go.RowKit
def askF1 (p:Nat):Value:=.func (.func 140) #[] #[.pointer (some ⟨p,0,none⟩)]
def askF2 (p:Nat):Value:=.func (.func 141) #[] #[.pointer (some ⟨p,0,none⟩)]
def askF3 (p q r:Nat):Value:=.func (.func 142) #[] #[.pointer (some ⟨p,0,none⟩),.pointer (some ⟨q,0,none⟩),.pointer (some ⟨r,0,none⟩)]
def askF4 (p q r:Nat):Value:=.func (.func 143) #[] #[.pointer (some ⟨p,0,none⟩),.pointer (some ⟨q,0,none⟩),.pointer (some ⟨r,0,none⟩)]
def asksF (p q r:Nat):List Fe:=[⟨⟨#[]⟩,askF1 p,[]⟩,⟨⟨#[33]⟩,askF2 p,[]⟩,⟨⟨#[61]⟩,askF3 p q r,[]⟩,⟨⟨#[33,61]⟩,askF4 p q r,[]⟩]
def askV (o:Option (ByteArray×Bool)):Value:=match o with|none=>.tuple #[.string ⟨#[]⟩,.bool false,.int .i64 4]|some p=>.tuple #[.string p.1,.bool p.2,.int .i64 0]
theorem split_sign (s:Bs):(splitC s).1<4:=by
 unfold splitC;split
 ·omega
 ·split
  ·omega
  ·split<;>omega
theorem split_le (s:Bs):(splitC s).2.1.length≤s.length∧(splitC s).2.2.length≤s.length:=by
 unfold splitC;split
 ·simp
 ·split
  ·simp
  ·rename_i a t h;have:=cutB_le h
   split
   ·simp only[List.length_dropLast];omega
   ·exact this
end Go.Bd
namespace Go.Proofs.YtkkebmciiiajeaaGreatDoor
open Go.RowKit Go.Bd
section
variable {w:World} {p q r:Nat} {b:Bool} {v t:ByteArray}
theorem ask1_any (hp:Holds w p 4 #[.bool b]):Calls Tryz.prog 140 #[.pointer (some ⟨p,0,none⟩)] w fun e w'=>e=.returned (.bool b)∧w=w':=by
 have c0:=hp.cell 0;simp at c0;clear hp
 go_enter Tryz.func140,Tryz.ntmps140
 go_wp2
 go_ret
 exact⟨rfl,rfl⟩
theorem ask2_any (hp:Holds w p 4 #[.bool b]):Calls Tryz.prog 141 #[.pointer (some ⟨p,0,none⟩)] w fun e w'=>e=.returned (.bool !b)∧w=w':=by
 have c0:=hp.cell 0;simp at c0;clear hp
 go_enter Tryz.func141,Tryz.ntmps141
 go_wp2
 go_ret
 exact⟨rfl,rfl⟩
theorem ask3_any (hp:Holds w p 4 #[.bool b]) (hq:Holds w q 9 #[.string v]) (hr:Holds w r 9 #[.string t]):Calls Tryz.prog 142 #[.pointer (some ⟨p,0,none⟩),.pointer (some ⟨q,0,none⟩),.pointer (some ⟨r,0,none⟩)] w fun e w'=>e=.returned (.bool (b&&decide (v=t)))∧w=w':=by
 have c0:=hp.cell 0;have c1:=hq.cell 0;have c2:=hr.cell 0;simp at c0 c1 c2;have hE:=toL_eq v t;generalize decide (v=t)=d at *;clear hp hq hr;cases b<;>cases d <;>
 ·go_enter Tryz.func142,Tryz.ntmps142
  go_wp2
  go_ret
  exact⟨rfl,rfl⟩
theorem ask4_any (hp:Holds w p 4 #[.bool b]) (hq:Holds w q 9 #[.string v]) (hr:Holds w r 9 #[.string t]):Calls Tryz.prog 143 #[.pointer (some ⟨p,0,none⟩),.pointer (some ⟨q,0,none⟩),.pointer (some ⟨r,0,none⟩)] w fun e w'=>e=.returned (.bool !(b&&decide (v=t)))∧w=w':=by
 have c0:=hp.cell 0;have c1:=hq.cell 0;have c2:=hr.cell 0;simp at c0 c1 c2;have hE:=toL_eq v t;generalize decide (v=t)=d at *;clear hp hq hr;cases b<;>cases d <;>
 ·go_enter Tryz.func143,Tryz.ntmps143
  go_wp2
  go_ret
  exact⟨rfl,rfl⟩
end
theorem asks_under:Tryz.prog.underlying 214=some (.map 9 27):=by kernel_rfl
theorem asks_zero (w:World):(zeroValue 27).run Tryz.prog w=.ok .nilFunc w:=by kernel_rfl
theorem asks_map (p q r:Nat) (w:World):∃w4,FsMap w4 Tryz.prog 9 w.heap.size (asksF p q r)∧Below w.heap.size w w4∧w4.heap.size=w.heap.size+1∧∃w1 w2 w3,
  (Instr.mapUpdate 214 (.map (some w.heap.size)) (.string ⟨#[]⟩) (askF1 p)).run Tryz.prog (w.alloc (.map #[] 0))=.ok () w1 ∧
  (Instr.mapUpdate 214 (.map (some w.heap.size)) (.string ⟨#[33]⟩) (askF2 p)).run Tryz.prog w1=.ok () w2 ∧
  (Instr.mapUpdate 214 (.map (some w.heap.size)) (.string ⟨#[61]⟩) (askF3 p q r)).run Tryz.prog w2=.ok () w3 ∧
  (Instr.mapUpdate 214 (.map (some w.heap.size)) (.string ⟨#[33,61]⟩) (askF4 p q r)).run Tryz.prog w3=.ok () w4:=by
 have hm0:=FsMap.new w Tryz.prog 9;obtain⟨w1,r1,m1,c1,s1⟩:=hm0.store (T:=214) List.Pairwise.nil str_under asks_under (by simp[maxLen]) ⟨⟨#[]⟩,askF1 p,[]⟩ (by show (0:Nat)≤maxLen;unfold maxLen;omega);have u1:Uniq (putF [] ⟨⟨#[]⟩,askF1 p,[]⟩):=Uniq.put List.Pairwise.nil _;obtain⟨w2,r2,m2,c2,s2⟩:=m1.store (T:=214) u1 str_under asks_under (by simp[maxLen,putF,delF]) ⟨⟨#[33]⟩,askF2 p,[]⟩ (by show (1:Nat)≤maxLen;unfold maxLen;omega);have u2:=Uniq.put u1 ⟨⟨#[33]⟩,askF2 p,[]⟩;have hes2:putF (putF [] ⟨⟨#[]⟩,askF1 p,[]⟩) ⟨⟨#[33]⟩,askF2 p,[]⟩=[⟨⟨#[]⟩,askF1 p,[]⟩,⟨⟨#[33]⟩,askF2 p,[]⟩]:=by
  simp[putF,delF,show (⟨#[]⟩:ByteArray)≠⟨#[33]⟩ by decide]
 rw[hes2] at m2 u2;obtain⟨w3,r3,m3,c3,s3⟩:=m2.store (T:=214) u2 str_under asks_under (by simp[maxLen]) ⟨⟨#[61]⟩,askF3 p q r,[]⟩ (by show (1:Nat)≤maxLen;unfold maxLen;omega);have u3:=Uniq.put u2 ⟨⟨#[61]⟩,askF3 p q r,[]⟩;have hes3:putF [⟨⟨#[]⟩,askF1 p,[]⟩,⟨⟨#[33]⟩,askF2 p,[]⟩] ⟨⟨#[61]⟩,askF3 p q r,[]⟩=[⟨⟨#[]⟩,askF1 p,[]⟩,⟨⟨#[33]⟩,askF2 p,[]⟩,⟨⟨#[61]⟩,askF3 p q r,[]⟩]:=by
  simp[putF,delF,show (⟨#[]⟩:ByteArray)≠⟨#[33]⟩ by decide,show (⟨#[]⟩:ByteArray)≠⟨#[61]⟩ by decide,show (⟨#[33]⟩:ByteArray)≠⟨#[61]⟩ by decide]
 rw[hes3] at m3 u3;obtain⟨w4,r4,m4,c4,s4⟩:=m3.store (T:=214) u3 str_under asks_under (by simp[maxLen]) ⟨⟨#[33,61]⟩,askF4 p q r,[]⟩ (by show (2:Nat)≤maxLen;unfold maxLen;omega);have hes4:putF [⟨⟨#[]⟩,askF1 p,[]⟩,⟨⟨#[33]⟩,askF2 p,[]⟩,⟨⟨#[61]⟩,askF3 p q r,[]⟩] ⟨⟨#[33,61]⟩,askF4 p q r,[]⟩=asksF p q r:=by
  simp[putF,delF,asksF,show (⟨#[]⟩:ByteArray)≠⟨#[33,61]⟩ by decide,show (⟨#[33]⟩:ByteArray)≠⟨#[33,61]⟩ by decide,show (⟨#[61]⟩:ByteArray)≠⟨#[33,61]⟩ by decide]
 rw[hes4] at m4;rw[World.size_alloc] at s1;have hall:Chg (w.alloc (.map #[] 0)) w4 (fun b=>b=w.heap.size):=((c1.trans c2 (fun _ _ h=>h)).trans c3 (fun _ _ h=>h)).trans c4 (fun _ _ h=>h);exact⟨w4,m4,((Below.refl w.heap.size w).alloc (Nat.le_refl _) _).trans (hall.toBelow (by simp) (fun k hk=>Nat.le_of_eq hk.symm)),by omega,w1,w2,w3,r1,r2,r3,r4⟩
theorem Ask_any {w:World}{S:Nat→Prop}{v:Value}{l:List At} (hl:AtS w S v l) (hS:∀k,S k→k<w.heap.size) (hn:l.length≤1000000000) (s:ByteArray) (hs:s.size≤100000){m:Int} (hm:Glob m w) :
  Calls Tryz.prog 97 #[v,.string s] w fun e w'=>e=.returned (askV (askC l s.data.toList))∧Below w.heap.size w w':=by
 have hmm:=@run_makeMap Tryz.prog;have hSp:=split_any s w hs hm;have hk4:=split_sign s.data.toList;have hle:=split_le s.data.toList;obtain⟨R,hR⟩:∃R,splitC s.data.toList=R:=⟨_,rfl⟩;obtain⟨k,nb,tb⟩:=R;rw[hR] at hSp hk4 hle;have hA:askC l s.data.toList=if nameB nb then some (ofB nb,holdsC k (getA l (ofB nb)) tb) else none:=by unfold askC;rw[hR]
 rw[hA];unfold splitV at hSp;dsimp only at hSp hk4 hle;have HS:=Lib.hid hSp;obtain⟨A,c,rfl,hc,h1⟩:=hl;have hl':AtS w S (.slice A (l.map atP).length c) l:=⟨A,c,rfl,hc,h1⟩;rw[List.length_map] at hc hl' ⊢;have HL:=hidH2 hl' hS;clear hSp hA hR h1 hl' hS hm;cases hnb:nameB nb with
 | false =>
  rw[hnb] at HS;rw[if_neg (by decide)];unfold askV;clear hnb hmm
  go_enter Tryz.func97,Tryz.ntmps97
  go_wp2_with (first
   | (go_at_call 139;refine HS.out.mono ?_;rintro e w1 ⟨rfl,hb1⟩))
  go_ret3
  exact⟨rfl,hb1.alloc hb1.size _⟩
 | true =>
  rw[hnb] at HS;rw[if_pos rfl];unfold askV;dsimp only;obtain⟨hv,hhv⟩:∃hv,holdsC k (getA l (ofB nb)) tb=hv:=⟨_,rfl⟩;rw[hhv];have HV:=Lib.hid hhv;clear hnb hhv
  go_enter Tryz.func97,Tryz.ntmps97
  go_wp2_with fail
  refine HS.out.mono ?_;rintro e w1 ⟨rfl,hb1⟩;have hb2:=hb1.alloc hb1.size (.cells #[.string (ofB tb)] 9);have hG:=Get_any (TwoS.below HL.out.1 hb2) (fun k hk=>Nat.lt_of_lt_of_le (HL.out.2 k hk) hb2.size) hn (ofB nb);have t0:=Holds.new w1 9 #[.string (ofB tb)];have HB:=Lib.hid hb2;have HG:=Lib.hid hG;clear hb1 hb2 hG
  go_wp2_with fail
  refine HG.out.mono ?_;rintro e w2 ⟨rfl,hb3⟩;have t1:=t0.below hb3 t0.lt;have hB2:Below w.heap.size w w2:=HB.out.trans (hb3.mono HB.out.size);have HT:=hidH2 t1 hB2;clear hb3 t0 t1 hB2 HG HB;obtain⟨bs,vs,hgv⟩:∃bs vs,getV (getA l (ofB nb))=.tuple #[.string vs,.bool bs]∧holdsC k (getA l (ofB nb)) tb=holdsC k (if bs then some vs else none) tb:=by
   cases getA l (ofB nb) with
   | none=>exact⟨false,⟨#[]⟩,rfl,rfl⟩
   | some x=>exact⟨true,x,rfl,rfl⟩
  have hev:=HV.out;rw[hgv.2] at hev;rw[hgv.1];clear hgv HV;have b1:=(Below.refl w2.heap.size w2).alloc (Nat.le_refl _) (.cells #[.string vs] 9);have b2:=b1.alloc b1.size (.cells #[.bool bs] 4);have x0:=(Holds.new w2 9 #[.string vs]).alloc (.cells #[.bool bs] 4);have x1:=Holds.new (w2.alloc (.cells #[.string vs] 9)) 4 #[.bool bs];have x2:=HT.out.1.below b2 HT.out.1.lt;obtain⟨W,hW⟩:∃W,(w2.alloc (.cells #[.string vs] 9)).alloc (.cells #[.bool bs] 4)=W:=⟨_,rfl⟩;have hsz:W.heap.size=w2.heap.size+2:=by rw[←hW];simp
  rw[World.size_alloc] at x1;rw[hW] at b2 x0 x1 x2;obtain⟨n1,hn1⟩:∃n1,w1.heap.size=n1:=⟨_,rfl⟩;obtain⟨n2,hn2⟩:∃n2,w2.heap.size=n2:=⟨_,rfl⟩;have hB2:=HT.out.2;rw[hn1] at x2;rw[hn2] at x0 x1 b1 b2 hsz;obtain⟨w4,m4,k4,z4,q1,q2,q3,r1,r2,r3,r4⟩:=asks_map (n2+1) n2 n1 W;rw[hsz] at m4 k4 z4 r1 r2 r3 r4;have y0:=x0.below k4 (by omega);have y1:=x1.below k4 (by omega);have y2:=x2.below k4 (by have:=x2.lt;omega);have hlk:∀(t:ByteArray) (u:Value),t.size≤10→lkF (asksF (n2+1) n2 n1) t .nilFunc=u→(Instr.lookup 214 (.map (some (n2+2))) (.string t) false).run Tryz.prog w4=.ok u w4:=fun t u ht hu=>by
   rw[FsMap.lookz m4 str_under asks_under (asks_zero w4) (s:=t) (by unfold maxLen;omega),hu]
  have hBf:Below w.heap.size w w4:=hB2.trans (((b2.trans (k4.mono (by omega)))).mono (by have:=hB2.size;omega));have HH:=hidH2 hBf hev;have HL2:=Lib.hid hlk;have HY:=hidH3 y0 y1 y2;have hk4':=hk4;clear hlk m4 k4 z4 y0 y1 y2 x0 x1 x2 b1 b2 hB2 hBf hev HT HL hk4;unfold askF1 at r1;unfold askF2 at r2;unfold askF3 at r3;unfold askF4 at r4
  rcases (show k=0∨k=1∨k=2∨k=3 by omega) with rfl|rfl|rfl|rfl
  ·have hq:=HL2.out (ofB (signB 0)) (askF1 (n2+1)) (by decide) (by simp[lkF,findF,asksF,signB,ofB]);unfold askF1 at hq;have hc:=ask1_any HY.out.2.1;have HC:=Lib.hid hc;clear hc
   go_wp2_with (go_at_call 140;refine HC.out.mono ?_;rintro e w5 ⟨rfl,rfl⟩)
   go_ret3
   refine⟨?_,HH.out.1⟩;rw[←HH.out.2];cases bs<;>rfl
  ·have hq:=HL2.out (ofB (signB 1)) (askF2 (n2+1)) (by decide) (by simp[lkF,findF,asksF,signB,ofB]);unfold askF2 at hq;have hc:=ask2_any HY.out.2.1;have HC:=Lib.hid hc;clear hc
   go_wp2_with (go_at_call 141;refine HC.out.mono ?_;rintro e w5 ⟨rfl,rfl⟩)
   go_ret3
   refine⟨?_,HH.out.1⟩;rw[←HH.out.2];cases bs<;>rfl
  ·have hq:=HL2.out (ofB (signB 2)) (askF3 (n2+1) n2 n1) (by decide) (by simp[lkF,findF,asksF,signB,ofB]);unfold askF3 at hq;have hc:=ask3_any HY.out.2.1 HY.out.1 HY.out.2.2;have HC:=Lib.hid hc;clear hc
   go_wp2_with (go_at_call 142;refine HC.out.mono ?_;rintro e w5 ⟨rfl,rfl⟩)
   go_ret3
   refine⟨?_,HH.out.1⟩;rw[←HH.out.2];cases bs<;>simp[holdsC]
  ·have hq:=HL2.out (ofB (signB 3)) (askF4 (n2+1) n2 n1) (by decide) (by simp[lkF,findF,asksF,signB,ofB]);unfold askF4 at hq;have hc:=ask4_any HY.out.2.1 HY.out.1 HY.out.2.2;have HC:=Lib.hid hc;clear hc
   go_wp2_with (go_at_call 143;refine HC.out.mono ?_;rintro e w5 ⟨rfl,rfl⟩)
   go_ret3
   refine⟨?_,HH.out.1⟩;rw[←HH.out.2];cases bs<;>simp[holdsC]
end Go.Proofs.YtkkebmciiiajeaaGreatDoor
namespace Go.Bd
open Go.RowKit
theorem run_append_nil {P:Program}{w:World} (base:Nat) (t ty e:TypeId) (i:TypeInfo) (size:Nat) (ht:P.underlying t=some (.slice e)) (hi:P.info? e=some i)
  (v:Value) (n:Nat) (xs:List Value) (hown:w.ownsRow base e size v n xs) (c:Nat) :
  (Builtin.append_ #[t,t] ty #[v,.slice none 0 c]).run P w=.ok v w:=by
 rcases hown.2 with ⟨rfl,rfl⟩|⟨g,cap,cur,rfl,_,_,hnc,_⟩
 ·simp[Builtin.append_,run_underlying ht,sizeOf,typeInfo,hi,Builtin.lenOf,Builtin.firstCells]
 ·simp[Builtin.append_,run_underlying ht,sizeOf,typeInfo,hi,Builtin.lenOf,Builtin.firstCells,hnc,storeCells]
theorem run_append_all {P:Program} (w:World) (t ty:TypeId) (base:Nat) (e:TypeId) (i:TypeInfo) (z:Value) (size bytes:Nat) (ht:P.underlying t=some (.slice e)) (hi:P.info? e=some i) (hz:i.zero=some z)
  (hsize:i.size=size) (hby:i.bytes=bytes) (hzs:z.cells.size=size) (hsz:0<size)
  (v:Value) (n:Nat) (xs:List Value) (hown:w.ownsRow base e size v n xs)
  (A:Option Addr) (m c:Nat) (news:List Value) (hl:news.length=m*size) (hnews:∀j u,news[j]? = some u→∃ad,A=some ad∧w.cell? (ad.add j)=some u) (h1:∀u∈news,u.oneCell'=true)
  (h63:n+m≤maxLen) (hbytes:(n+m)*bytes≤140737488355328) (hbase:base≤w.heap.size) :
  ∃A' cap w',(Builtin.append_ #[t,t] ty #[v,.slice A m c]).run P w=.ok (.slice A' (n+m) cap) w' ∧
   w'.ownsRow base e size (.slice A' (n+m) cap) (n+m) (xs++news)∧w.grownBy w' v.ownBlock∧∀k,(Value.slice A' (n+m) cap).ownBlock=some k→v.ownBlock=some k∨k=w.heap.size:=by
 have form:∀(v':Value) (W:World) (q:Nat) (xs':List Value),W.ownsRow base e size v' q xs'→∃A' cap,v'=.slice A' q cap:=fun v' W q xs' h=>by
  rcases h.2 with ⟨rfl,h0⟩|⟨g,cap,cur,rfl,_⟩
  ·exact⟨none,0,by rw[h0]⟩
  ·exact⟨_,_,rfl⟩
 cases A with
 | some ad =>
  obtain⟨v',w',hr,h2,h3,_,h5⟩:=run_append_own_at (P:=P) w base t ty e i z size bytes ht hi hz hsize hby hzs hsz v n xs hown ad m c news hl (fun j u hj=>by obtain⟨_,e1,e2⟩:=hnews j u hj;cases e1;exact e2) h1 h63 hbytes hbase;obtain⟨A',cap,rfl⟩:=form _ _ _ _ h2;refine⟨A',cap,w',hr,h2,h3,fun k hk=>?_⟩
  rcases h5 with h5|h5
  ·exact .inl (h5 ▸ hk)
  ·exact .inr (by rw[h5] at hk;cases hk;rfl)
 | none =>
  have hm:news=[]:=by
   cases news with
   | nil=>rfl
   | cons u r=>obtain⟨_,e1,_⟩:=hnews 0 u rfl;cases e1
  subst hm;have hm0:m=0:=by
   rw[List.length_nil] at hl
   rcases Nat.mul_eq_zero.1 hl.symm with h|h<;>omega
  subst hm0;obtain⟨A',cap,rfl⟩:=form v w n xs hown;exact⟨A',cap,w,run_append_nil base t ty e i size ht hi _ n xs hown c,by rw[List.append_nil];exact hown,World.grownBy.refl _ _,fun k hk=>.inl hk⟩
theorem wpList_append_all {P:Program}{w:World}{ops:Array Oper}{rest:List Oper}{o:Oper}{a:Act}{Q:Exit→Act→World→Prop} (hgd:Region.wanted o (yielded ops a.tmps)=true) (s x:Operand) (t:TypeId)
  (ho:o.op=.call { callee:=.builtin .append,args:=#[s,x],argTypes:=#[t,t] })
  (base:Nat) (e:TypeId) (i:TypeInfo) (z:Value) (size bytes:Nat) (ht:P.underlying t=some (.slice e)) (hi:P.info? e=some i) (hz:i.zero=some z)
  (hsize:i.size=size) (hby:i.bytes=bytes) (hzs:z.cells.size=size) (hsz:0<size)
  (v:Value) (n:Nat) (xs:List Value) (hs:a.eval s=v) (hown:w.ownsRow base e size v n xs)
  (A:Option Addr) (m c:Nat) (news:List Value) (hx:a.eval x=.slice A m c) (hl:news.length=m*size) (hnews:∀j u,news[j]? = some u→∃ad,A=some ad∧w.cell? (ad.add j)=some u) (h1:∀u∈news,u.oneCell'=true)
  (q:Nat) (hq:n+m=q) (zs:List Value) (hzq:xs++news=zs) (h63:q≤maxLen) (hbytes:q*bytes≤140737488355328) (hbase:base≤w.heap.size)
  (h:∀A' cap w',w'.ownsRow base e size (.slice A' q cap) q zs→w.grownBy w' v.ownBlock→(∀k,(Value.slice A' q cap).ownBlock=some k→v.ownBlock=some k∨k=w.heap.size)→wpList P ops Q rest (a.put o.dst (.slice A' q cap)) w'):wpList P ops Q (o::rest) a w:=by
 subst hq;subst hzq;refine wpList_step fun K hK=>?_
 rw[if_pos hgd];obtain⟨A',cap,w',hr,h2,h3,h4⟩:=run_append_all (P:=P) w t o.type base e i z size bytes ht hi hz hsize hby hzs hsz v n xs hown A m c news hl hnews h1 h63 hbytes hbase;unfold Oper.wp execOp;simp only[ho,resolve,invoke,builtin,Sem.run_bind,Sem.run_pure,Result.andThen_ok,List.map_toArray,List.map_cons,List.map_nil,hs,hx,hr];exact hK _ _ (h A' cap w' h2 h3 h4)
end Go.Bd
namespace Go.Proofs.YtkkebmciiiajeaaGreatDoor
open Go.RowKit Go.Bd
theorem atA_info:(Tryz.prog.info? 47).map (fun i=>(i.zero,i.size,i.bytes))=some (some (.agg #[.string ⟨#[]⟩,.string ⟨#[]⟩]),2,32):=by kernel_rfl
theorem ats_under:Tryz.prog.underlying 23=some (.slice 47):=by kernel_rfl
theorem int_underA:Tryz.prog.underlying 3=some (.int .i64):=by kernel_rfl
theorem zeros_size (zs:Array Value) (n:Nat):(Builtin.zeroCells zs n).size=n*zs.size:=by
 unfold Builtin.zeroCells;simp
theorem grow1_any (w:World):Calls Tryz.prog 190 #[.slice none 0 0,.int .i64 1] w fun e w'=>∃cap,e=.returned (.slice (some ⟨w.heap.size,0,none⟩) 0 cap)∧w'.ownsRow w.heap.size 47 2 (.slice (some ⟨w.heap.size,0,none⟩) 0 cap) 0 []∧Below w.heap.size w w':=by
 obtain⟨i0,hi0,hz0,hz1,hz2⟩:=info_parts atA_info;have hr:=Lib.run_append_nil_zeros (P:=Tryz.prog) w 23 3 23 47 i0 _ .i64 .i64 ats_under int_underA hi0 hz0 1 (by omega) (by omega) (by omega) (by omega);have hcap:=grownCap_ge w 1 0 47;have hcm:=grownCap_le_maxLen w 1 0 47 (by decide);obtain⟨cap,hc⟩:∃cap,grownCap w 1 0 47=cap:=⟨_,rfl⟩;rw[hc] at hr hcap hcm;obtain⟨cur,hcur⟩:∃cur,(Builtin.zeroCells (Value.agg #[.string ⟨#[]⟩,.string ⟨#[]⟩]).cells 1++Builtin.zeroCells (Value.agg #[.string ⟨#[]⟩,.string ⟨#[]⟩]).cells (cap-1))=cur:=⟨_,rfl⟩;have hsz:cur.size=cap*2:=by
  rw[←hcur,Array.size_append,zeros_size,zeros_size];have:(Value.agg #[.string ⟨#[]⟩,.string ⟨#[]⟩]).cells.size=2:=by decide
  rw[this];omega
 rw[hcur] at hr;have HR:=Lib.hid hr;have HS:=Lib.hid hsz;have hB:=(((Chg.refl w (fun _=>False)).drewN 1).alloc (.cells cur 47)).toBelow (Nat.le_refl _) (fun _ h=>h.elim);have HB:=Lib.hid hB;have hw1:=heap_alloc_new w.drew (.cells cur 47);have HW:=Lib.hid hw1;clear hi0 hz0 hz1 hz2 hr hc hcur hsz hB hw1
 go_enter Tryz.func190,Tryz.ntmps190
 go_wp2_with (at_builtin;refine Lib.wpList_append_run _ rfl _ _ _ _ rfl _ _ rfl rfl _ _ HR.out ?_)
 go_ret
 exact⟨_,rfl,⟨rfl,.inr ⟨w.heap.size,cap,cur,rfl,Nat.le_refl _,HW.out,Nat.zero_le _,hcm,HS.out,by simp⟩⟩,HB.out⟩
theorem concat3_any {w:World}{n g:Nat}{tS:TypeId}{a b:ByteArray} (hn:Holds w n tS #[.slice none 0 0,.slice (some ⟨g,0,none⟩) 1 1,.slice none 0 0]) (hg:Holds w g 47 #[.string a,.string b]) :
  Calls Tryz.prog 147 #[.slice (some ⟨n,0,none⟩) 3 3] w fun e w'=>(∃v',e=.returned v')∧Below w.heap.size w w':=by
 obtain⟨i0,hi0,hz0,hz1,hz2⟩:=info_parts atA_info;have HI:=hidH4 hi0 hz0 hz1 hz2;have c0:=hn.cell 0;have c1:=hn.cell 1;have c2:=hn.cell 2;simp at c0 c1 c2;have HN:=hidH2 hn hg;clear hi0 hz0 hz1 hz2 hn hg
 go_enter Tryz.func147,Tryz.ntmps147
 go_wp2_with fail
 refine wp_loop_rounds 4 ?_;rw[rounds_succ]
 go_wp2_with fail
 rw[rounds_succ]
 go_wp2_with fail
 rw[rounds_succ]
 go_wp2_with fail
 rw[rounds_succ]
 go_wp2_with fail
 refine (grow1_any w).mono ?_;rintro e w1 ⟨k1,rfl,ho1,hb1⟩;have d0:=(HN.out.1.below hb1 HN.out.1.lt).cell 0;have d1:=(HN.out.1.below hb1 HN.out.1.lt).cell 1;have d2:=(HN.out.1.below hb1 HN.out.1.lt).cell 2;simp at d0 d1 d2;have hgx:=HN.out.2.below hb1 HN.out.2.lt;have HO:=hidH3 ho1 hgx hb1;clear ho1 hgx c0 c1 c2 hb1
 go_wp2_with fail
 refine wp_loop_rounds 4 ?_;rw[rounds_succ];have hn1:=fun ty=>Go.Bd.run_append_nil (P:=Tryz.prog) (w:=w1) w.heap.size 23 ty 47 i0 2 ats_under HI.out.1 _ 0 [] HO.out.1 0
 have HN1:=Lib.hid hn1;clear hn1
 go_wp2_with (at_builtin;refine Lib.wpList_append_run _ rfl _ _ _ _ rfl _ _ rfl rfl _ _ (HN1.out _) ?_)
 rw[rounds_succ]
 go_wp2_with (at_builtin;refine wpList_append_lies _ rfl _ _ 23 rfl w.heap.size 47 i0 _ 2 32 ats_under HI.out.1 HI.out.2.1 HI.out.2.2.1 HI.out.2.2.2 rfl (by omega) _ 0 [] rfl HO.out.1 ⟨g,0,none⟩ 1 1 [.string a,.string b] rfl rfl (fun j u hu=>by rw[addr_add,HO.out.2.1.cell];simpa using hu) (by simp[Value.oneCell']) (by omega) (by decide) (by decide) HO.out.2.2.size _ rfl ?_;intro g2 k2 w2 ho2 hg2 hat2 hl2)
 have hC2:Chg w1 w2 (fun k=>w.heap.size≤k):=(Chg.grown hg2).mono (fun k _ hk=>by
  have:some k=some w.heap.size:=hk
  injection this with this
  omega)
 have hB2:Below w.heap.size w w2:=HO.out.2.2.trans (hC2.toBelow HO.out.2.2.size (fun _ h=>h));have e2:=(HN.out.1.below hB2 HN.out.1.lt).cell 2;simp at e2;have HP:=hidH2 ho2 hB2;have hn2:=fun ty=>Go.Bd.run_append_nil (P:=Tryz.prog) (w:=w2) w.heap.size 23 ty 47 i0 2 ats_under HI.out.1 _ (0+1) _ ho2 0
 have HN2:=Lib.hid hn2;clear d0 d1 d2 ho2 hg2 hat2 hC2 hB2 hl2 hn2;rw[rounds_succ]
 go_wp2_with (at_builtin;refine Lib.wpList_append_run _ rfl _ _ _ _ rfl _ _ rfl rfl _ _ (HN2.out _) ?_)
 rw[rounds_succ]
 go_wp2_with fail
 go_ret
 exact⟨⟨_,rfl⟩,HP.out.2⟩
theorem set0_any (n v:ByteArray) (w:World) (hn:n.size≤100000) (hv:v.size≤1000000000000) :
  Calls Tryz.prog 104 #[.slice none 0 0,.string n,.string v] w fun e w'=>(∃x,e=.returned (.tuple #[x,.int .i64 (if nameB n.data.toList&&validB v.data.toList then 0 else 1)]))∧Below w.heap.size w w':=by
 have cc:=fun W=>Check_any (w:=W) (S:=fun _=>False) (TwoS.nil W _) (fun _ h=>h.elim) (l:=[]) (by decide) (fun _ h=>by cases h)
 have cn:=fun W=>name_any n W (by omega)
 have cv:=fun W=>valid_any v W hv
 have hk:checkB []=true:=rfl;rw[hk] at cc;generalize nameB n.data.toList=bn at *;generalize validB v.data.toList=bv at *;have HC:=hidH3 cc cn cv;have b0:=(Below.refl w.heap.size w).alloc (Nat.le_refl _) (.cells #[.string n] 9);have x0:=Holds.new w 9 #[.string n];have HX:=hidH2 b0 x0;clear cc cn cv hk b0 x0;cases bn with
 | false =>
  go_enter Tryz.func104,Tryz.ntmps104
  go_wp2_with fail
  refine (HC.out.1 _).mono ?_;rintro e w1 ⟨rfl,hb1⟩;have c0:=(HX.out.2.below hb1 HX.out.2.lt).cell 0;simp at c0
  go_wp2_with (go_at_call 52;refine (HC.out.2.1 _).mono ?_;rintro e w2 ⟨rfl,rfl⟩)
  go_ret2
  exact⟨⟨_,rfl⟩,HX.out.1.trans (hb1.mono HX.out.1.size)⟩
 | true =>
  cases bv with
  | false =>
   go_enter Tryz.func104,Tryz.ntmps104
   go_wp2_with fail
   refine (HC.out.1 _).mono ?_;rintro e w1 ⟨rfl,hb1⟩;have c0:=(HX.out.2.below hb1 HX.out.2.lt).cell 0;simp at c0
   go_wp2_with (first|(go_at_call 52;refine (HC.out.2.1 _).mono ?_;rintro e w2 ⟨rfl,rfl⟩)|(go_at_call 60;refine (HC.out.2.2 _).mono ?_;rintro e w2 ⟨rfl,rfl⟩))
   go_ret2
   exact⟨⟨_,rfl⟩,HX.out.1.trans (hb1.mono HX.out.1.size)⟩
  | true =>
   go_enter Tryz.func104,Tryz.ntmps104
   go_wp2_with fail
   refine (HC.out.1 _).mono ?_;rintro e w1 ⟨rfl,hb1⟩;have hx1:=HX.out.2.below hb1 HX.out.2.lt;have c0:=hx1.cell 0;simp at c0;have hB:=HX.out.1.trans (hb1.mono HX.out.1.size);obtain⟨nb,hnb⟩:∃nb,w.heap.size=nb:=⟨_,rfl⟩;rw[hnb] at c0 hx1;have hnl:=hx1.lt;have HB:=hidH2 hB hnb;clear hb1 HX hx1 hB
   go_wp2_with (first
    | (go_at_call 52;refine (HC.out.2.1 _).mono ?_;rintro e w2 ⟨rfl,rfl⟩)
    | (go_at_call 60;refine (HC.out.2.2 _).mono ?_;rintro e w2 ⟨rfl,rfl⟩)
    | (go_at_call 44;refine (find_none _ _).mono ?_;rintro e w2 ⟨rfl,rfl⟩))
   (try rw[hnb])
   clear hnb;refine wp_region_held_drew (S:=(fun w'=>w'.cell? ⟨nb,0,none⟩=some (.string n))) (by kernel_rfl) ?_ (fun hHeld0=>?_)
   ·(try dsimp only)
    exact c0
   refine tkH 0 31 ?_;refine tkH 1 32 ?_;refine tkH 2 33 ?_;refine tkH 3 34 ?_;refine tkH 4 35 ?_;refine wpAnyH_take (i:=5) (oi:=⟨some 36,_,_,_,_,_⟩) (v:=undef) rfl (by kernel_rfl) (by kernel_rfl) (by kernel_rfl) (fun _ _ _ h=>h) (Or.inr ⟨by kernel_rfl,rfl⟩) (by assumption) ?_
   (try go_frame)
   refine wpAnyH_take (i:=6) (oi:=⟨some 37,_,_,_,_,_⟩) (v:=undef) rfl (by kernel_rfl) (by kernel_rfl) (by kernel_rfl) (fun _ _ _ h=>h) (Or.inr ⟨by kernel_rfl,rfl⟩) (by assumption) ?_
   (try go_frame)
   refine wpAnyH_take (i:=7) (oi:=⟨some 38,_,_,_,_,_⟩) (v:=undef) rfl (by kernel_rfl) (by kernel_rfl) (by kernel_rfl) (fun _ _ _ h=>h) (Or.inr ⟨by kernel_rfl,rfl⟩) (by assumption) ?_
   (try go_frame)
   refine wpAnyH_take (i:=8) (oi:=⟨some 39,_,_,_,_,_⟩) (v:=undef) rfl (by kernel_rfl) (by kernel_rfl) (by kernel_rfl) (fun _ _ _ h=>h) (Or.inr ⟨by kernel_rfl,rfl⟩) (by assumption) ?_
   (try go_frame)
   refine wpAnyH_take (i:=9) (oi:=⟨some 40,_,_,_,_,_⟩) (v:=undef) rfl (by kernel_rfl) (by kernel_rfl) (by kernel_rfl) (fun _ _ _ h=>h) (Or.inr ⟨by kernel_rfl,rfl⟩) (by assumption) ?_
   (try go_frame)
   refine wpAnyH_take (i:=10) (oi:=⟨some 41,_,_,_,_,_⟩) (v:=undef) rfl (by kernel_rfl) (by kernel_rfl) (by kernel_rfl) (fun _ _ _ h=>h) (Or.inr ⟨by kernel_rfl,rfl⟩) (by assumption) ?_
   (try go_frame)
   refine wpAnyH_take (i:=11) (oi:=⟨some 42,_,_,_,_,_⟩) (v:=undef) rfl (by kernel_rfl) (by kernel_rfl) (by kernel_rfl) (fun _ _ _ h=>h) (Or.inr ⟨by kernel_rfl,rfl⟩) (by assumption) ?_
   (try go_frame)
   refine tkH 12 43 ?_;refine wpAnyH_done (by kernel_rfl) ?_ _
   go_wp2_with fail
   refine wp_region_held_drew (S:=(fun w'=>w'.cell? ⟨nb,0,none⟩=some (.string n))) (by kernel_rfl) ?_ (fun hHeld0=>?_)
   ·(try dsimp only)
    first|exact c0|exact (World.cell?_alloc_lt _ _ _ hnl).trans c0|exact (World.cell?_alloc_lt _ _ _ (by simp;omega)).trans ((World.cell?_alloc_lt _ _ _ hnl).trans c0)|exact d1
   refine tkH 0 54 ?_;refine tkH 1 55 ?_;refine tkH 2 56 ?_;refine tkH 3 57 ?_;refine tkH 4 58 ?_;refine tkH 5 59 ?_;refine tkH 7 61 ?_;refine tkH 8 62 ?_;refine tkH 9 63 ?_;refine rdyH [6] ?_;refine AllReadyH.cons (o:=⟨some 60,_,_,_,_,_⟩) rfl (fun K hK=>?_) AllReadyH.nil;go_simp;refine hK.out _ _ ?_ (fun hHeld1=>?_)
   ·(try dsimp only)
    first|exact c0|exact (World.cell?_alloc_lt _ _ _ hnl).trans c0|exact (World.cell?_alloc_lt _ _ _ (by simp;omega)).trans ((World.cell?_alloc_lt _ _ _ hnl).trans c0)|exact d1
   clear hK K hHeld0
   (try go_frame)
   refine rdyH [10] ?_;refine AllReadyH.cons (o:=⟨some 64,_,_,_,_,_⟩) rfl (fun K hK=>?_) AllReadyH.nil;go_simp;refine hK.out _ _ ?_ (fun hHeld2=>?_)
   ·(try dsimp only)
    first|exact c0|exact (World.cell?_alloc_lt _ _ _ hnl).trans c0|exact (World.cell?_alloc_lt _ _ _ (by simp;omega)).trans ((World.cell?_alloc_lt _ _ _ hnl).trans c0)|exact d1
   clear hK K hHeld1
   (try go_frame)
   refine rdyH [11] ?_;refine AllReadyH.cons (o:=⟨some 65,_,_,_,_,_⟩) rfl (fun K hK=>?_) AllReadyH.nil;go_simp;have hA:=(Holds.new w2 47 #[.string n,.string v]).alloc (.cells #[.slice none 0 0,.slice (some ⟨w2.heap.size,0,none⟩) 1 1,.slice none 0 0] 23);have hB:=Holds.new (w2.alloc (.cells #[.string n,.string v] 47)) 23 #[.slice none 0 0,.slice (some ⟨w2.heap.size,0,none⟩) 1 1,.slice none 0 0];rw[World.size_alloc] at hB;have hch:Below w2.heap.size w2 (((w2.alloc (.cells #[.string n,.string v] 47)).alloc (.cells #[.slice none 0 0,.slice (some ⟨w2.heap.size,0,none⟩) 1 1,.slice none 0 0] 23)).drew.drew):=(((((Chg.refl w2 (fun _=>False)).alloc _).alloc _).drew).drew).toBelow (Nat.le_refl _) (fun _ h=>h.elim);refine (concat3_any (w:=((w2.alloc (.cells #[.string n,.string v] 47)).alloc (.cells #[.slice none 0 0,.slice (some ⟨w2.heap.size,0,none⟩) 1 1,.slice none 0 0] 23)).drew.drew) hB hA).mono ?_;rintro e w3 ⟨⟨x3,rfl⟩,hb3⟩;have hall:=hch.trans (hb3.mono hch.size);have hBf:Below w.heap.size w w3:=HB.out.1.trans (hall.mono HB.out.1.size);have d1:=(hall.cell (p:=⟨nb,0,none⟩) hnl).trans c0;clear hA hB hch hb3 hall
   go_wp2_with fail
   refine hK.out _ _ ?_ (fun hHeld3=>?_)
   ·(try dsimp only)
    first|exact c0|exact (World.cell?_alloc_lt _ _ _ hnl).trans c0|exact (World.cell?_alloc_lt _ _ _ (by simp;omega)).trans ((World.cell?_alloc_lt _ _ _ hnl).trans c0)|exact d1
   clear hK K hHeld2
   (try go_frame)
   refine tkH 12 6 ?_;refine tkH 13 7 ?_;refine wpAnyH_done (by kernel_rfl) ?_ _;go_wp2
   go_ret2
   exact⟨⟨_,rfl⟩,hBf⟩
theorem unset0_any (n:ByteArray) (w:World) (hn:n.size≤100000) :
  Calls Tryz.prog 107 #[.slice none 0 0,.string n] w fun e w'=>e=.returned (.tuple #[.slice none 0 0,.int .i64 (if nameB n.data.toList then 0 else 1)])∧Below w.heap.size w w':=by
 have cc:=fun W=>Check_any (w:=W) (S:=fun _=>False) (TwoS.nil W _) (fun _ h=>h.elim) (l:=[]) (by decide) (fun _ h=>by cases h)
 have cn:=fun W=>name_any n W (by omega)
 have hk:checkB []=true:=rfl;rw[hk] at cc;generalize nameB n.data.toList=bn at *;have HC:=hidH2 cc cn;clear cc cn hk;cases bn with
 | false =>
  go_enter Tryz.func107,Tryz.ntmps107
  go_wp2_with fail
  refine (HC.out.1 _).mono ?_;rintro e w1 ⟨rfl,hb1⟩
  go_wp2_with (go_at_call 52;refine (HC.out.2 _).mono ?_;rintro e w2 ⟨rfl,rfl⟩)
  go_ret2
  exact⟨rfl,hb1⟩
 | true =>
  go_enter Tryz.func107,Tryz.ntmps107
  go_wp2_with fail
  refine (HC.out.1 _).mono ?_;rintro e w1 ⟨rfl,hb1⟩
  go_wp2_with (go_at_call 52;refine (HC.out.2 _).mono ?_;rintro e w2 ⟨rfl,rfl⟩)
  refine wp_loop_rounds 1 ?_;rw[rounds_succ]
  go_wp2_with fail
  go_ret2
  exact⟨rfl,hb1⟩
end Go.Proofs.YtkkebmciiiajeaaGreatDoor
namespace Go.Bd
open Go.RowKit
theorem cmp_neg:∀a b:Bs,Lib.compareBytes a b<0↔a<b
 | [],[]=>by simp[Lib.compareBytes]
 | [],_::_=>by simp[Lib.compareBytes]
 | _::_,[]=>by simp[Lib.compareBytes]
 | a::l,b::m=>by
  have ih:=cmp_neg l m;rw[List.cons_lt_cons_iff,Lib.compareBytes]
  by_cases h1:a<b
  ·simp[h1]
  ·by_cases h2:b<a
   ·have h3:¬a=b:=fun e=>by subst e;exact absurd h2 (by simp)
    simp[h1,h2,h3]
   ·have h3:a=b:=UInt8.le_antisymm (by simpa using h2) (by simpa using h1);simp[h3,ih]
theorem cmp_zero:∀a b:Bs,Lib.compareBytes a b=0↔a=b
 | [],[]=>by simp[Lib.compareBytes]
 | [],_::_=>by simp[Lib.compareBytes]
 | _::_,[]=>by simp[Lib.compareBytes]
 | a::l,b::m=>by
  have ih:=cmp_zero l m;rw[Lib.compareBytes]
  by_cases h1:a<b
  ·have h3:¬a=b:=fun e=>by subst e;exact absurd h1 (by simp)
   simp[h1,h3]
  ·by_cases h2:b<a
   ·have h3:¬a=b:=fun e=>by subst e;exact absurd h2 (by simp)
    simp[h1,h2,h3]
   ·have h3:a=b:=UInt8.le_antisymm (by simpa using h2) (by simpa using h1);simp[h3,ih]
theorem lt_tri:∀a b:Bs,a<b∨a=b∨b<a
 | [],[]=>.inr (.inl rfl)
 | [],_::_=>.inl (by simp)
 | _::_,[]=>.inr (.inr (by simp))
 | a::l,b::m=>by
  rw[List.cons_lt_cons_iff,List.cons_lt_cons_iff]
  by_cases h1:a<b
  ·exact .inl (.inl h1)
  ·by_cases h2:b<a
   ·exact .inr (.inr (.inl h2))
   ·have h3:a=b:=UInt8.le_antisymm (by simpa using h2) (by simpa using h1)
    rcases lt_tri l m with h|h|h
    ·exact .inl (.inr ⟨h3,h⟩)
    ·exact .inr (.inl (by rw[h3,h]))
    ·exact .inr (.inr (.inr ⟨h3.symm,h⟩))
theorem lt_asym:∀{a b:Bs},a<b→¬b<a
 | [],[],h,_=>by simp at h
 | [],_::_,_,h=>by simp at h
 | _::_,[],h,_=>by simp at h
 | a::l,b::m,h,k=>by
  rw[List.cons_lt_cons_iff] at h k
  rcases h with h|⟨h,h'⟩
  ·rcases k with k|⟨k,_⟩
   ·exact absurd (UInt8.lt_trans h k) (by simp)
   ·subst k;exact absurd h (by simp)
  ·rcases k with k|⟨_,k⟩
   ·subst h;exact absurd k (by simp)
   ·exact lt_asym h' k
theorem lt_tr:∀{a b c:Bs},a<b→b<c→a<c
 | [],_,[],_,h=>by simp at h
 | [],_,_::_,_,_=>by simp
 | _::_,[],_,h,_=>by simp at h
 | _::_,_::_,[],_,h=>by simp at h
 | a::l,b::m,c::n,h,k=>by
  rw[List.cons_lt_cons_iff] at h k ⊢
  rcases h with h|⟨h,h'⟩
  ·rcases k with k|⟨k,_⟩
   ·exact .inl (UInt8.lt_trans h k)
   ·subst k;exact .inl h
  ·rcases k with k|⟨k,k'⟩
   ·subst h;exact .inl k
   ·subst h;subst k;exact .inr ⟨rfl,lt_tr h' k'⟩
def posA (l:List At) (n:ByteArray):Nat:=(l.takeWhile fun a=>decide (a.name.data.toList<n.data.toList)).length
def isA (l:List At) (n:ByteArray):Bool:=match l[posA l n]? with|some a=>decide (a.name=n)|none=>false
theorem posA_le (l:List At) (n:ByteArray):posA l n≤l.length:=by
 unfold posA;exact (List.takeWhile_sublist _).length_le
theorem rises_tail:∀{a:At}{l:List At},risesB (a::l)=true→risesB l=true∧∀b∈l,a.name.data.toList<b.name.data.toList
 | a,[],_=>⟨rfl,fun b h=>by cases h⟩
 | a,x::l,h=>by
  have h':(decide (a.name.data.toList<x.name.data.toList)&&risesB (x::l))=true:=h;rw[Bool.and_eq_true,decide_eq_true_eq] at h';refine⟨h'.2,fun b hb=>?_⟩
  rcases List.mem_cons.1 hb with rfl|hb
  ·exact h'.1
  ·exact lt_tr h'.1 ((rises_tail h'.2).2 b hb)
theorem posA_of:∀{l:List At}{n:ByteArray}{i:Nat},i≤l.length→(∀k a,k<i→l[k]? = some a→a.name.data.toList<n.data.toList)→(∀a,l[i]? = some a→¬a.name.data.toList<n.data.toList)→posA l n=i
 | [],n,i,hi,_,_=>by simp at hi;subst hi;rfl
 | a::l,n,0,_,_,h2=>by
  have:=h2 a rfl
  unfold posA;rw[List.takeWhile_cons,if_neg (by rw[decide_eq_true_eq];exact this)];rfl
 | a::l,n,i+1,hi,h1,h2=>by
  have h3:=h1 0 a (by omega) rfl;have ih:=posA_of (l:=l) (n:=n) (i:=i) (by simpa using hi) (fun k b hk hb=>h1 (k+1) b (by omega) (by simpa using hb)) (fun b hb=>h2 b (by simpa using hb));unfold posA at ih ⊢;rw[List.takeWhile_cons,if_pos (by rw[decide_eq_true_eq];exact h3),List.length_cons,ih]
theorem rises_lt:∀{l:List At},risesB l=true→∀{i j:Nat}{a b:At},i<j→l[i]? = some a→l[j]? = some b→a.name.data.toList<b.name.data.toList
 | [],_,i,j,a,b,_,h,_=>by simp at h
 | x::l,h,0,j+1,a,b,_,ha,hb=>by
  cases ha
  exact (rises_tail h).2 b (List.mem_of_getElem? (by simpa using hb))
 | x::l,h,i+1,j+1,a,b,hij,ha,hb=>rises_lt (l:=l) (rises_tail h).1 (i:=i) (j:=j) (by omega) (by simpa using ha) (by simpa using hb)
end Go.Bd
namespace Go.Proofs.YtkkebmciiiajeaaGreatDoor
open Go.RowKit Go.Bd
theorem attrs_at {w:World}{v:Value}{l:List At} (h:w.ownsRow 0 tAt 2 v l.length (rowAt l)):AtS w (fun k=>v.ownBlock=some k) v l:=by
 rcases Nat.eq_zero_or_pos l.length with h0|h0
 ·obtain⟨A,c,hv,hc⟩:=own_rowL h;have:l=[]:=List.length_eq_zero_iff.1 h0
  subst this;exact⟨A,c,hv,hc,fun j f hf=>by simp at hf⟩
 ·obtain⟨g,cap,hv,hc,_,_,h1,_⟩:=own_rowN h h0;refine⟨some ⟨g,0,none⟩,cap,by rw[List.length_map];exact hv,by rw[List.length_map];exact hc,fun j f hf=>?_⟩;rw[List.getElem?_map,Option.map_eq_some_iff] at hf;obtain⟨a,ha,rfl⟩:=hf;refine⟨g,0,rfl,by rw[hv];rfl,?_,?_⟩
  ·rw[Nat.zero_add];exact h1 _ _ (flat_get atCells 2 (fun _=>rfl) (i:=0) ha rfl)
  ·rw[Nat.zero_add];exact h1 _ _ (flat_get atCells 2 (fun _=>rfl) (i:=1) ha rfl)
theorem where1_any (a b n:ByteArray) (w:World) :
  Calls Tryz.prog 149 #[.agg #[.string a,.string b],.string n] w fun e w'=>e=.returned (.int .i64 (Lib.compareBytes a.data.toList n.data.toList))∧w'=w.alloc (.cells #[.string a,.string b] 47):=by
 have HC:=Lib.hid (fun W=>Tryz.strings_Compare a n W)
 go_enter Tryz.func149,Tryz.ntmps149
 go_wp2_with (go_at_call 150;refine (HC.out _).mono ?_;rintro e w2 ⟨rfl,rfl⟩)
 go_ret
 exact⟨rfl,rfl⟩
theorem search_any {w:World}{S:Nat→Prop}{v:Value}{l:List At} (hl:AtS w S v l) (hS:∀k,S k→k<w.heap.size) (hn:l.length≤1000000000) (hr:risesB l=true) (n:ByteArray) :
  Calls Tryz.prog 148 #[v,.string n,.func (.func 149) #[] #[]] w fun e w'=>e=.returned (.tuple #[.int .i64 (posA l n:Int),.bool (isA l n)])∧Below w.heap.size w w':=by
 obtain⟨A,c,rfl,hc,h1⟩:=hl;rw[List.length_map] at hc ⊢;obtain⟨nl,hnl⟩:∃nl,l.length=nl:=⟨_,rfl⟩;rw[hnl] at hc hn ⊢;have HN:=Lib.hid hnl;have H1:=Lib.hid h1;have HS:=Lib.hid hS;have HR:=Lib.hid hr;clear h1 hS hnl hr;have hcl:∀(wr:World) (k:Nat) (a:At),Below w.heap.size w wr→l[k]? = some a→∃b off,A=some ⟨b,off,none⟩∧wr.cell? ⟨b,off+k*2,none⟩=some (.string a.name)∧wr.cell? ⟨b,off+k*2+1,none⟩=some (.string a.value):=fun wr k a hb ha=>by
  obtain⟨b,off,h2,hSb,q0,q1⟩:=H1.out k (atP a) (by rw[List.getElem?_map,ha];rfl);exact⟨b,off,h2,(hb.cell (p:=⟨b,off+k*2,none⟩) (HS.out b hSb)).trans q0,(hb.cell (p:=⟨b,off+k*2+1,none⟩) (HS.out b hSb)).trans q1⟩
 have HCL:=Lib.hid hcl;clear hcl
 go_enter Tryz.func148,Tryz.ntmps148
 go_wp2_with fail
 go_loopg [9,10] nl (fun q iv jv wr=>∃i j:Nat,i+q=j∧j≤nl∧iv=.int .i64 i∧jv=.int .i64 j∧Hid (Below w.heap.size w wr∧(∀k a,k<i→l[k]? = some a→a.name.data.toList<n.data.toList)∧∀a,l[j]? = some a→¬a.name.data.toList<n.data.toList))
 case atStart=>exact⟨0,nl,by omega,Nat.le_refl _,rfl,rfl,Lib.hid ⟨Below.refl _ _,fun k a hk=>by omega,fun a ha=>by rw[List.getElem?_eq_none (by rw[HN.out];exact Nat.le_refl _)] at ha;cases ha⟩⟩
 case round =>
  obtain⟨i,j,hij,hjl,rfl,rfl,HQ⟩:=hrel
  by_cases hlt:i<j
  ·obtain⟨h,hh⟩:∃h:Nat,(i+j) / 2=h:=⟨_,rfl⟩;have hh1:i≤h:=by omega
   have hh2:h<j:=by omega
   obtain⟨a,ha⟩:∃a,l[h]? = some a:=⟨_,List.getElem?_eq_getElem (by rw[HN.out];omega)⟩;obtain⟨b,off,rfl,q0,q1⟩:=HCL.out wr h a HQ.out.1 ha;have hcm:=where1_any a.name a.value n;obtain⟨ci,hci⟩:∃ci,Lib.compareBytes a.name.data.toList n.data.toList=ci:=⟨_,rfl⟩;rw[hci] at hcm;have HM:=Lib.hid hcm;have HA:=hidH2 ha hci;have f1:IntKind.i64.wrap ((i:Int)+(j:Int))=(i:Int)+(j:Int):=IntWalk.i64_in _ (by omega);have f3:IntKind.u64.wrap ((i:Int)+(j:Int))=(i:Int)+(j:Int):=IntWalk.u64_in _ ⟨by omega,by omega⟩;clear ha hci hcm
   by_cases hneg:ci<0
   ·go_wp2_with (go_at_call 149;refine (HM.out wr).mono ?_;rintro e w2 ⟨rfl,hb2⟩)
    go_roundg (j-(h+1))
    case measure=>omega
    case rel=>exact⟨h+1,j,by omega,hjl,by rw[←hh];go_num,rfl,Lib.hid ⟨by exact HQ.out.1.alloc HQ.out.1.size _,fun k x hk hx=>by
     have hha:a.name.data.toList<n.data.toList:=(cmp_neg _ _).1 (by rw[HA.out.2];exact hneg)
     by_cases hkh:k=h
     ·subst hkh;rw[HA.out.1] at hx;cases hx;exact hha
     ·exact lt_tr (rises_lt HR.out (by omega) hx HA.out.1) hha,HQ.out.2.2⟩⟩
   ·go_wp2_with (go_at_call 149;refine (HM.out wr).mono ?_;rintro e w2 ⟨rfl,hb2⟩)
    go_roundg (h-i)
    case measure=>omega
    case rel=>exact⟨i,h,by omega,by omega,rfl,by rw[←hh];go_num,Lib.hid ⟨by exact HQ.out.1.alloc HQ.out.1.size _,HQ.out.2.1,fun x hx=>by
     rw[HA.out.1] at hx;cases hx
     exact fun h2=>by have:=(cmp_neg _ _).2 h2;rw[HA.out.2] at this;omega⟩⟩
  ·obtain rfl:i=j:=by omega
   have hpos:posA l n=i:=posA_of (by rw[HN.out];exact hjl) HQ.out.2.1 HQ.out.2.2
   by_cases hin:i<nl
   ·obtain⟨a,ha⟩:∃a,l[i]? = some a:=⟨_,List.getElem?_eq_getElem (by rw[HN.out];omega)⟩;obtain⟨b,off,rfl,q0,q1⟩:=HCL.out wr i a HQ.out.1 ha;have hcm:=where1_any a.name a.value n;have his:isA l n=decide (a.name=n):=by unfold isA;rw[hpos,ha]
    obtain⟨ci,hci⟩:∃ci,Lib.compareBytes a.name.data.toList n.data.toList=ci:=⟨_,rfl⟩;have hz:=cmp_zero a.name.data.toList n.data.toList;rw[hci] at hcm hz;have hd:decide (a.name=n)=decide (ci=0):=by
     rw[decide_eq_decide,hz];constructor
     ·intro h;rw[h]
     ·intro h;have:=toL_eq a.name n
      rw[Lib.toList_data,Lib.toList_data,h] at this;simpa using this.symm
    have HM:=Lib.hid hcm;have HA:=hidH2 hpos (his.trans hd);clear ha hci hcm hpos his hz hd
    go_wp2_with (go_at_call 149;refine (HM.out wr).mono ?_;rintro e w2 ⟨rfl,hb2⟩)
    go_ret2
    rw[HA.out.1,HA.out.2];refine⟨?_,by exact HQ.out.1.alloc HQ.out.1.size _⟩
    first|rfl|(congr 3;rw[Bool.eq_iff_iff];simp)
   ·obtain rfl:i=nl:=by omega
    have his:isA l n=false:=by unfold isA;rw[hpos,List.getElem?_eq_none (by rw[HN.out];exact Nat.le_refl _)]
    have HA:=hidH2 hpos his;clear hpos his
    go_wp2_with fail
    go_ret2
    rw[HA.out.1,HA.out.2];exact⟨rfl,HQ.out.1⟩
theorem a_where {w:World}{κ:Nat→Nat}{rb wm:Nat}{sv:Value}{v:Rv}{st:Ast}{stk:Stk} (h:ARd w κ rb wm sv v st stk) (hn:st.attrs.length≤1000000000) (hr:risesB st.attrs=true) (n:ByteArray) :
  Calls Tryz.prog 105 #[.pointer (some ⟨rb,0,none⟩),.string n] w fun e w'=>e=.returned (.tuple #[.int .i64 (posA st.attrs n:Int),.bool (isA st.attrs n)])∧Below w.heap.size w w':=by
 have hA:=attrs_at h.attrs;have hC:=search_any hA (fun k hk=>h.lt k (by rw[h.kAt k hk];decide)) hn hr n;have c1:=h.hold.cell 1;simp at c1;obtain⟨A,c,hv,_⟩:=own_rowL h.attrs;rw[hv] at c1 hC;have HC:=Lib.hid hC;clear h hA hC hv hr
 go_enter Tryz.func105,Tryz.ntmps105
 go_wp2_with (go_at_call 148;refine HC.out.mono ?_;rintro e w2 ⟨rfl,hb2⟩)
 go_ret2
 exact⟨rfl,hb2⟩
theorem incl1_any {w:World}{g b:Nat}{r nm:ByteArray}{rv:Value} (hg:Holds w g 9 #[.string r]) (hb:Holds w b tSrc #[.string nm,rv]) :
  Calls Tryz.prog 102 #[.pointer (some ⟨b,0,none⟩),.pointer (some ⟨g,0,none⟩)] w fun e w'=>e=.returned (.bool (decide (nm=r)))∧Below w.heap.size w w':=by
 have c0:=hg.cell 0;have d0:=hb.cell 0;simp at c0 d0;have hE:=toL_eq nm r;clear hg hb;generalize decide (nm=r)=d at *
 go_enter Tryz.func102,Tryz.ntmps102
 go_wp2
 go_quiet (fail)
 go_wp2
 go_ret
 exact⟨rfl,Below.ofDrew w _⟩
theorem indexOpen_any {w:World}{κ:Nat→Nat}{rb wm:Nat}{sv:Value}{v:Rv}{st:Ast}{stk:Stk} (h:ARd w κ rb wm sv v st stk) (hn:stk.length≤1000) (hp:0<stk.length){g:Nat}{r:ByteArray} (hg:Holds w g 9 #[.string r]) :
  Calls Tryz.prog 144 #[v.ov,.func (.func 102) #[] #[.pointer (some ⟨g,0,none⟩)]] w fun e w'=>(∃i:Int,e=.returned (.int .i64 i)∧(0≤i↔hasN (stk.map (·.1)) r=true))∧Below w.heap.size w w':=by
 obtain⟨ob,cap,hov,hcl,_,hol,hoc,_⟩:=own_rowN h.opens hp;rw[hov];obtain⟨nl,hnl⟩:∃nl,stk.length=nl:=⟨_,rfl⟩;have hcl:∀(wr:World) (k:Nat),Below w.heap.size w wr→k<nl→∃b rv nm cs,stk[k]? = some (nm,cs)∧wr.cell? ⟨ob,k,none⟩=some (.pointer (some ⟨b,0,none⟩))∧Holds wr b tSrc #[.string nm,rv]:=fun wr k hb hk=>by
  obtain⟨s,hs⟩:∃s,stk[k]? = some s:=⟨_,List.getElem?_eq_getElem (by omega)⟩;obtain⟨p,hp⟩:∃p,v.sb[k]? = some p:=⟨_,List.getElem?_eq_getElem (by rw[h.len];omega)⟩;have h1:=h.src k p s hp hs;have h2:=hoc k (.pointer (some ⟨p.1,0,none⟩)) (by rw[List.getElem?_map,hp];rfl);exact⟨p.1,p.2,s.1,s.2,hs,(hb.cell (p:=⟨ob,k,none⟩) hol).trans h2,h1.hold.below hb h1.hold.lt⟩
 have HCL:=Lib.hid hcl;have HG:=Lib.hid hg;have HN:=Lib.hid hnl;rw[hnl] at hn ⊢;clear hcl hg hnl h hov hoc
 go_enter Tryz.func144,Tryz.ntmps144
 go_wp2_with fail
 go_loopg [8] nl (fun q i wr=>∃k:Nat,k+q=nl∧i=.int .i64 k∧Hid (Below w.heap.size w wr∧∀s∈stk.take k,s.1≠r))
 case atStart=>exact⟨0,by omega,rfl,Lib.hid ⟨Below.refl _ _,fun b hb=>by simp at hb⟩⟩
 case round =>
  obtain⟨k,hk,rfl,HR⟩:=hrel
  by_cases hlt:k<nl
  ·obtain⟨b,rv,nm,cs,hs,q0,hh⟩:=HCL.out wr k HR.out.1 hlt;have hX:=incl1_any (HG.out.below HR.out.1 HG.out.lt) hh;have HS:=Lib.hid hs;clear hs hh
   by_cases heq:nm=r
   ·rw[decide_eq_true heq] at hX;have HX:=hidH2 hX heq;clear hX heq
    go_wp2_with (go_at_call 102;refine HX.out.1.mono ?_;rintro e w2 ⟨rfl,hb2⟩)
    go_ret
    refine⟨⟨k,rfl,⟨fun _=>?_,fun _=>by omega⟩⟩,HR.out.1.trans (hb2.mono HR.out.1.size)⟩;rw[hasN_iff,List.mem_map];exact⟨_,List.mem_of_getElem? HS.out,HX.out.2⟩
   ·rw[decide_eq_false heq] at hX;have HX:=hidH2 hX heq;clear hX heq
    go_wp2_with (go_at_call 102;refine HX.out.1.mono ?_;rintro e w2 ⟨rfl,hb2⟩)
    go_roundg (gk-1)
    case measure=>omega
    case rel=>exact⟨k+1,by omega,by go_num,Lib.hid ⟨HR.out.1.trans (hb2.mono HR.out.1.size),fun s hs=>by
     rw[List.take_add_one,HS.out] at hs
     rcases List.mem_append.1 hs with h|h
     ·exact HR.out.2 s h
     ·rw[Option.toList_some,List.mem_singleton] at h;rw[h];exact HX.out.2⟩⟩
  ·obtain rfl:k=nl:=by omega
   go_wp2_with fail
   go_ret
   have hno:=HR.out.2;rw[List.take_of_length_le (by rw[HN.out];exact Nat.le_refl _)] at hno;refine⟨⟨-1,rfl,⟨fun h=>by omega,fun h=>?_⟩⟩,HR.out.1⟩;rw[hasN_iff,List.mem_map] at h;obtain⟨s,hs,he⟩:=h;exact absurd he (hno s hs)
theorem isOpen_any {w:World}{κ:Nat→Nat}{rb wm:Nat}{sv:Value}{v:Rv}{st:Ast}{stk:Stk} (h:ARd w κ rb wm sv v st stk) (hn:stk.length≤1000) (hp:0<stk.length){g:Nat}{r:ByteArray} (hg:Holds w g 9 #[.string r]) :
  Calls Tryz.prog 101 #[v.ov,.func (.func 102) #[] #[.pointer (some ⟨g,0,none⟩)]] w fun e w'=>e=.returned (.bool (hasN (stk.map (·.1)) r))∧Below w.heap.size w w':=by
 have hI:=indexOpen_any h hn hp hg;obtain⟨A,c,hov,_⟩:=own_rowL h.opens;rw[hov] at hI ⊢;obtain⟨b,hb⟩:∃b,hasN (stk.map (·.1)) r=b:=⟨_,rfl⟩;rw[hb] at hI ⊢;have HI:=Lib.hid hI;clear hI h hg hov hb
 go_enter Tryz.func101,Tryz.ntmps101
 go_wp2_with (go_at_call 144;refine HI.out.mono ?_;rintro e w2 ⟨⟨i,rfl,hi⟩,hb2⟩)
 go_ret
 refine⟨ret_bool ?_,hb2⟩;cases b<;>first|rfl|(rw[decide_eq_false];rw[hi];decide)|(rw[decide_eq_true];rw[hi])
end Go.Proofs.YtkkebmciiiajeaaGreatDoor
