/- part 10 -/
import Derived.Laws.AppendOwnNone
import Derived.Deep.AppendLies
import Derived.Test.YtkdknllcllhpgaaGreatDoorRows
import Derived.Test.YtkdknllcllhpgaaGreatDoorChecked
import Derived.IntWalk
import Derived.Deep.Light
import Derived.Handy
import Derived.Lib.Hide
import Derived.BigQuiet
import Derived.Deep.LoopGhost
import Derived.Below
import Derived.WalkKit
import Derived.WalkSpells
import Derived.Deep.RegionHeld3
import Derived.Deep.DrawnRows
import Derived.Outline
import Derived.Test.YtkdknllcllhpgaaGreatDoorK0
import Derived.Test.YtkdknllcllhpgaaGreatDoorK1
import Derived.Test.YtkdknllcllhpgaaGreatDoorK2
import Derived.Test.YtkdknllcllhpgaaGreatDoorK3
import Derived.Test.YtkdknllcllhpgaaGreatDoorK4
import Derived.Test.YtkdknllcllhpgaaGreatDoorK5
import Derived.Test.YtkdknllcllhpgaaGreatDoorK8
import Derived.Test.YtkdknllcllhpgaaGreatDoorK9
set_option linter.unusedSimpArgs false
set_option linter.unusedVariables false
set_option maxHeartbeats 16000000
set_option maxRecDepth 100000
namespace Go.Bd
open Go.RowKit
def sortN (l:List ByteArray):List ByteArray:=((l.map fun n=>n.data.toList).mergeSort leB).map ofB
def newK (wm n:Nat):Nat→Nat:=fun k=>if k=wm then 2 else if k=n then 3 else if k=n+1 then 4 else if k=n+2 then 5 else if k=n+3 then 1 else 0
def zeroA:Ast:=⟨[],0,[],[],[],[],[],[],false⟩
theorem readS_lm {src:List Sc} (hz:∀s∈src,s.text.size≤99999) (attrs:List At) (name:ByteArray):(readS src attrs name).lines.length≤16384∧(readS src attrs name).diags.length≤32769∧(readS src attrs name).files.length≤16385∧(readS src attrs name).asked.length≤1638416384:=by
 unfold readS;cases hf:findS src name with
 | none=>exact⟨Nat.zero_le _,by simp,Nat.zero_le _,Nat.zero_le _⟩
 | some t =>
  have h1:=first_lm attrs;have h:=read_lm hz 16 [] name t (firstA attrs) 0 rfl hf h1.1 h1.2 (Nat.le_refl _) (Nat.le_refl _);dsimp only at h ⊢;have g0:=h.cnt;have g1:=h.lines;have g2:=h.diags;have g3:=h.files;have g4:=h.asked;refine⟨by omega,?_,by omega,by omega⟩;have:(if (readM src 16 [] name t (firstA attrs)).over then 1 else 0)≤1:=by split<;>omega
  omega
end Go.Bd
namespace Go.Proofs.YtkdknllcllhpgaaGreatDoor
open Go.RowKit Go.Bd Go.Shelf Go.Maps
theorem own_nil (w:World) (b sz:Nat) (e:TypeId):w.ownsRow b e sz (.slice none 0 0) 0 []:=⟨by simp,.inl ⟨rfl,rfl⟩⟩
theorem own_up {w:World}{b b' sz n:Nat}{e:TypeId}{v:Value}{xs:List Value} (h:w.ownsRow b e sz v n xs) (hb:∀k,v.ownBlock=some k→b'≤k):w.ownsRow b' e sz v n xs:=by
 obtain⟨h1,h2⟩:=h;refine⟨h1,?_⟩
 rcases h2 with h2|⟨g,cap,cur,h2,h3,h4⟩
 ·exact .inl h2
 ·refine .inr ⟨g,cap,cur,h2,hb g ?_,h4⟩;rw[h2];rfl
theorem new_ard {w4:World}{wm B n:Nat}{sv:Value} (hf:FsMap w4 Tryz.prog tTx wm wordsF) (hwl:wm<w4.heap.size) (hB:B≤wm) (h3:3≤B) (hn:w4.heap.size=n) :
  ARd ((((w4.alloc (.map #[] 0)).alloc (.map #[] 0)).alloc (.map #[] 0)).alloc (.cells #[sv,.slice none 0 0,.map (some wm),.slice none 0 0,.int .i64 0,.map (some n),.map (some (n+1)),.map (some (n+2)),.slice none 0 0,.slice none 0 0,.slice none 0 0] tAr)) (newK wm n) (n+3) wm sv ⟨.slice none 0 0,.slice none 0 0,.slice none 0 0,.slice none 0 0,.slice none 0 0,n,n+1,n+2,[]⟩ zeroA []:=by
 subst hn;have m1:=FsMap.new w4 Tryz.prog tTx;have m2:=FsMap.new (w4.alloc (.map #[] 0)) Tryz.prog tTx;have m3:=FsMap.new ((w4.alloc (.map #[] 0)).alloc (.map #[] 0)) Tryz.prog tTx;have e2:(w4.alloc (.map #[] 0)).heap.size=w4.heap.size+1:=World.size_alloc _ _;have e3:((w4.alloc (.map #[] 0)).alloc (.map #[] 0)).heap.size=w4.heap.size+2:=by rw[World.size_alloc,e2]
 have e4:(((w4.alloc (.map #[] 0)).alloc (.map #[] 0)).alloc (.map #[] 0)).heap.size=w4.heap.size+3:=by rw[World.size_alloc,e3]
 rw[e2] at m2;rw[e3] at m3;have a1:∀(W:World) (b:Obj),Chg W (W.alloc b) (fun _=>False):=fun W b=>(Chg.refl W _).alloc b
 have hX:=Holds.new (((w4.alloc (.map #[] 0)).alloc (.map #[] 0)).alloc (.map #[] 0)) tAr #[sv,.slice none 0 0,.map (some wm),.slice none 0 0,.int .i64 0,.map (some w4.heap.size),.map (some (w4.heap.size+1)),.map (some (w4.heap.size+2)),.slice none 0 0,.slice none 0 0,.slice none 0 0];rw[e4] at hX;refine⟨hX,own_nil _ _ _ _,((m1.chg (a1 _ _) (fun h=>h)).chg (a1 _ _) (fun h=>h)).chg (a1 _ _) (fun h=>h),(m2.chg (a1 _ _) (fun h=>h)).chg (a1 _ _) (fun h=>h),m3.chg (a1 _ _) (fun h=>h),
  own_nil _ _ _ _,own_nil _ _ _ _,own_nil _ _ _ _,own_nil _ _ _ _,rfl,(fun j p s h=>by simp at h),(((hf.chg (a1 _ _) (fun h=>h)).chg (a1 _ _) (fun h=>h)).chg (a1 _ _) (fun h=>h)).chg (a1 _ _) (fun h=>h),?_,?_,?_,?_,?_,
  (fun k h=>by cases h),(fun k h=>by cases h),(fun k h=>by cases h),(fun k h=>by cases h),(fun k h=>by cases h),fun k h=>?_,fun k h=>?_,List.Pairwise.nil,List.Pairwise.nil,List.Pairwise.nil⟩
 ·(try dsimp only);unfold newK;rw[if_neg (by omega),if_neg (by omega),if_neg (by omega),if_neg (by omega),if_pos rfl]
 ·(try dsimp only);unfold newK;rw[if_pos rfl]
 ·(try dsimp only);unfold newK;rw[if_neg (by omega),if_pos rfl]
 ·(try dsimp only);unfold newK;rw[if_neg (by omega),if_neg (by omega),if_pos rfl]
 ·(try dsimp only);unfold newK;rw[if_neg (by omega),if_neg (by omega),if_neg (by omega),if_pos rfl]
 ·rw[World.size_alloc,e4];unfold newK at h
  repeat' split at h
  all_goals omega
 ·unfold newK at h
  repeat' split at h
  all_goals omega
theorem set_perm {w:World}{P:Program}{K bm:Nat}{l:List ByteArray} (hu:Uniq (setFe l)) (hk:P.underlying K=some .string){D:DataW Value} (hown:w.ownsMap P K heldR bm (setFe l).length D) (hh:∀s:ByteArray,Maps.has D (nameL s)=(findF (setFe l) s).isSome):(l.map (fun n=>n.data.toList)).Perm (strKeys D):=by
 have e:l.map (fun n=>n.data.toList)=(setFe l).map (fun e=>e.name.data.toList):=by unfold setFe;rw[List.map_map];rfl
 rw[e];generalize setFe l=es at *;refine Collected.perm (left:=fun _=>false) ⟨?_,fun x=>?_⟩ hown (string_keyed hk) hk (fun _=>rfl)
 ·rw[List.nodup_iff_pairwise_ne,List.pairwise_map];refine hu.imp (fun {a b} hne e=>hne ?_);cases ha:a.name with
  | mk da =>
   cases hb:b.name with
   | mk db =>
    rw[ha,hb] at e;simp only at e;rw[Array.toList_inj.1 e]
 ·have h1:=hh ⟨⟨x⟩⟩;unfold nameL at h1;simp only at h1;rw[h1];simp only[and_true];rw[List.mem_map];constructor
  ·rintro⟨e,he,rfl⟩;exact List.find?_isSome.2 ⟨e,he,by simp⟩
  ·intro hs;obtain⟨e,he,hp⟩:=List.find?_isSome.1 hs;have hn:e.name=⟨⟨x⟩⟩:=by simpa using hp
   exact⟨e,he,by rw[hn]⟩
theorem readsrc_any {S:Nat→Prop}{src:List Sc}{sv:Value}{rb wm:Nat} (hsn:src.length≤1000000000) (hz:∀s∈src,s.text.size≤99999) (hkw:∀s∈src,∀t∈linesT s.text,okW t=true){m:Int}:∀(d:Nat){w:World}{κ:Nat→Nat}{v:Rv}{st:Ast}{stk:Stk}{j:Nat} (name text:ByteArray),
  stk.length+(d+1)=16→ARd w κ rb wm sv v st stk→st.over=false→ScS w S sv src→(∀k,S k→k<w.heap.size∧κ k=0)→Lm 0 j st→st.files.length≤st.count→st.begun.length≤st.count→Glob m w→name.size≤100000→findS src name=some text →
  Calls Tryz.prog 78 #[.pointer (some ⟨rb,0,none⟩),.string name,.string text] w fun e w'=>ReadP [⟨.iface 138 (.int .i64 1),false,false⟩] w κ rb wm sv v stk (readM src (d+1) (stk.map (·.1)) name text st) e w'
 | 0,w,κ,v,st,stk,j,name,text,hn,h,ho,hsc,hS,hlm,hfl,hbl,hg,hnz,hf =>
  read_step (d:=0) h ho hsc hS hsn hz hkw hlm hfl hbl hg name text hnz hf (by omega) (fun W κ' v' st' stk' rest t hl h16=>by omega)
 | d+1,w,κ,v,st,stk,j,name,text,hn,h,ho,hsc,hS,hlm,hfl,hbl,hg,hnz,hf =>
  read_step (d:=d+1) h ho hsc hS hsn hz hkw hlm hfl hbl hg name text hnz hf (by omega) (fun W κ' v' st' stk' rest t hl h16 hM hA ho' hj hfl' hbl' hr hf'=>by
   obtain⟨j',hj'⟩:=hj;exact readsrc_any hsn hz hkw d rest t (by omega) hA ho' (TwoS.chg hsc hM.chg (fun k hk e=>e (hS k hk).2)) (fun k hk=>⟨Nat.lt_of_lt_of_le (hS k hk).1 hM.chg.size,(hM.same k (hS k hk).1).trans (hS k hk).2⟩) hj' hfl' hbl' (hg.chg hM.chg (fun k hk=>h.three k hk)) hr hf')
def rowK (κ:Nat→Nat) (n:Nat) (v:Value) (c:Nat):Nat→Nat:=fun k=>if k<n then κ k else if v.ownBlock=some k then c else 0
def Fst (w:World) (rb wm:Nat) (sv:Value) (st:Ast) (wx:World):Prop:=∃κ v,ARd wx κ rb wm sv v st []∧(∀k,k<w.heap.size→κ k=0)∧Below w.heap.size w wx
theorem aread_any {w:World}{S T:Nat→Prop}{sv av:Value}{src:List Sc}{attrs:List At} (hsc:ScS w S sv src) (hat:AtS w T av attrs) (hS:∀k,S k→k<w.heap.size) (hT:∀k,T k→k<w.heap.size) (hsn:src.length≤1000000000) (han:attrs.length≤1000000000)
  (hz:∀s∈src,s.text.size≤99999) (haz:∀a∈attrs,a.name.size≤100000∧a.value.size≤100000) {m:Int} (hg:Glob m w) (h3:3≤w.heap.size) (name:ByteArray) (hnz:name.size≤100000) (hkw:∀s∈src,∀t∈linesT s.text,okW t=true) :
  Calls Tryz.prog 36 #[sv,av,.string name] w fun e w'=>∃lv dv fv kv,e=.returned (.tuple #[lv,dv,fv,kv])∧w'.ownsRow w.heap.size tLn 3 lv (readS src attrs name).lines.length (rowLn (readS src attrs name).lines)∧w'.ownsRow w.heap.size tDg 4 dv (readS src attrs name).diags.length (rowD (readS src attrs name).diags) ∧
   w'.ownsRow w.heap.size tTx 1 fv (readS src attrs name).files.length (rowTx (readS src attrs name).files)∧w'.ownsRow w.heap.size tTx 1 kv (sortN (readS src attrs name).asked).length (rowTx (sortN (readS src attrs name).asked))∧Below w.heap.size w w':=by
 have hF:=Find_any hsc hS hsn name;have HH:=hidH8 hsc hat hS hT hz haz hg h3;obtain⟨As,cs,hsv,_⟩:=hsc;rw[List.length_map] at hsv;obtain⟨sn,hsn2⟩:∃sn,src.length=sn:=⟨_,rfl⟩;rw[hsn2] at hsv;subst hsv;clear hat hS hT hz haz hg;cases hf:findS src name with
 | none =>
  rw[hf] at hF;unfold getV at hF;have hr:readS src attrs name={ firstA [] with diags:=[⟨name,0,1,name⟩] }:=by unfold readS;rw[hf]
  have HF:=hidH2 hF hr;clear hF hr hf hsn2
  go_enter Tryz.func36,Tryz.ntmps36
  go_wp2_with fail
  refine HF.out.1.mono ?_;rintro e w1 ⟨rfl,hb1⟩;have HB:=Lib.hid hb1;clear hb1;go_wp2;refine bodyPost_ret (results_tmp4 rfl _ _ _) rfl ?_;rw[HF.out.2];have es:sortN []=[]:=by simp[sortN]
  refine⟨.slice none 0 0,.slice (some ⟨w1.heap.size,0,none⟩) 1 1,.slice none 0 0,.slice none 0 0,rfl,own_nil _ _ _ _,?_,own_nil _ _ _ _,?_,HB.out.alloc (HB.out.size) _⟩;rotate_left
  ·show World.ownsRow _ _ _ _ _ (sortN []).length (rowTx (sortN []))
   rw[es];exact own_nil _ _ _ _
  exact own_shut (heap_alloc_new w1 _) (by simp) (by simp[rowD,dgCells]) (Nat.le_refl _) (by unfold maxLen;omega) HB.out.size
 | some t =>
  rw[hf] at hF;unfold getV at hF;have hr:readS src attrs name=readM src 16 [] name t (firstA attrs):=by unfold readS;rw[hf]
  have HF:=hidH3 hF hr hf;clear hF hr hf hsn2;have hmm:=@run_makeMap Tryz.prog
  go_enter Tryz.func36,Tryz.ntmps36
  go_wp2_with fail
  refine HF.out.1.mono ?_;rintro e w1 ⟨rfl,hb1⟩;have hW:=words_any w1;have HW:=hidH2 hb1 hW;clear hb1 hW
  go_wp2_with fail
  refine HW.out.2.mono ?_;rintro e w2 ⟨rfl,hf2,hb2,hs2⟩;obtain⟨wm,hwm⟩:∃wm,w1.heap.size=wm:=⟨_,rfl⟩;rw[hwm] at hf2 hb2 hs2 ⊢;obtain⟨n,hn⟩:∃n,w2.heap.size=n:=⟨_,rfl⟩;rw[hn] at hs2;have hwl:wm<w2.heap.size:=by omega
  have HS2:=Lib.hid hs2;clear hs2;have hwB:w.heap.size≤wm:=by rw[←hwm];exact HW.out.1.size
  have hA0:=new_ard (sv:=.slice As sn cs) hf2 hwl hwB HH.out.2.2.2.2.2.2.2 hn;have hb4:Below w.heap.size w ((((w2.alloc (.map #[] 0)).alloc (.map #[] 0)).alloc (.map #[] 0)).alloc (.cells #[.slice As sn cs,.slice none 0 0,.map (some wm),.slice none 0 0,.int .i64 0,.map (some n),.map (some (n+1)),.map (some (n+2)),.slice none 0 0,.slice none 0 0,.slice none 0 0] 94)):=by
   have h1:Below w.heap.size w w2:=HW.out.1.trans (hb2.mono hwB);exact (((h1.alloc (by omega) _).alloc (by simp;omega) _).alloc (by simp;omega) _).alloc (by simp;omega) _
  have hr1:(w2.alloc (.map #[] 0)).heap.size=n+1:=by rw[World.size_alloc,hn]
  have hr2:((w2.alloc (.map #[] 0)).alloc (.map #[] 0)).heap.size=n+2:=by rw[World.size_alloc,hr1]
  have hr3:(((w2.alloc (.map #[] 0)).alloc (.map #[] 0)).alloc (.map #[] 0)).heap.size=n+3:=by rw[World.size_alloc,hr2]
  obtain⟨W4,hW4⟩:∃W4,(((w2.alloc (.map #[] 0)).alloc (.map #[] 0)).alloc (.map #[] 0)).alloc (.cells #[.slice As sn cs,.slice none 0 0,.map (some wm),.slice none 0 0,.int .i64 0,.map (some n),.map (some (n+1)),.map (some (n+2)),.slice none 0 0,.slice none 0 0,.slice none 0 0] 94)=W4:=⟨_,rfl⟩;have hW4':=hW4;unfold tAr at hA0;rw[hW4] at hA0 hb4;have hC:=Check_any (TwoS.below HH.out.2.1 hb4) (fun k hk=>Nat.lt_of_lt_of_le (HH.out.2.2.2.1 k hk) hb4.size) han HH.out.2.2.2.2.2.1;have HA:=hidH4 hA0 hb4 hC hwB;clear hA0 hb4 hC hwB hwm hb2 hf2
  go_wp2_with fail
  refine HA.out.2.2.1.mono ?_;rintro e W5 ⟨rfl,hb5⟩;obtain⟨cb,hcb⟩:∃cb,checkB attrs=cb:=⟨_,rfl⟩;have hA5:=HA.out.1.below hb5;have hb5':=HA.out.2.1.trans (hb5.mono HA.out.2.1.size);have hat5:=TwoS.below HH.out.2.1 hb5';have hCl:=cloneA_any attrs T av W5 hat5 (fun k hk=>Nat.lt_of_lt_of_le (HH.out.2.2.2.1 k hk) hb5'.size) han;have hk0:∀k,k<w.heap.size→newK wm n k=0:=fun k hk=>by
   have h1:=HA.out.2.2.2;have h2:=HS2.out;unfold newK;rw[if_neg (by omega),if_neg (by omega),if_neg (by omega),if_neg (by omega),if_neg (by omega)]
  rw[hcb];have H5:=hidH5 hA5 hb5' hCl hk0 hcb;clear hA5 hb5' hat5 hCl hk0 hcb hb5 hW4 hW4' hmm
  go_upto_if 33 with fail
  go_cut [] (fun wx=>Hid (Fst w (n+3) wm (.slice As sn cs) (firstA attrs) wx))
  case first =>
   cases cb
   ·go_wp2_with fail
    go_meet
    case rel =>
     have e:firstA attrs=zeroA:=by unfold firstA;rw[if_neg (by rw[H5.out.2.2.2.2];decide)];rfl
     rw[e];exact Lib.hid ⟨newK wm n,_,H5.out.1,H5.out.2.2.2.1,H5.out.2.1⟩
   ·go_wp2_with fail
    refine H5.out.2.2.1.mono ?_;rintro e W6 ⟨v6,rfl,hrow,hb6⟩;obtain⟨A6,c6,hv6,_⟩:=own_rowL hrow;subst hv6;have hA6:=H5.out.1.below hb6;have c1:=hA6.hold.cell 1;have f1:=hA6.hold.free 1;simp at c1;obtain⟨an,han2⟩:∃an,attrs.length=an:=⟨_,rfl⟩;have hrow':=hrow;rw[han2] at hrow' ⊢;have H6:=hidH4 hA6 hb6 hrow' han2;clear hA6 hb6 hrow hrow' han2
    go_wp2_with fail
    go_meet
    case rel =>
     have e:firstA attrs={ zeroA with attrs:=attrs }:=by unfold firstA;rw[if_pos H5.out.2.2.2.2];rfl
     rw[e];have hS:=Chg.set W6 ⟨n+3,1,none⟩ (.slice A6 an c6);have hold:∀k,k<W5.heap.size→rowK (newK wm n) W5.heap.size (.slice A6 an c6) 6 k=newK wm n k:=fun k hk=>by unfold rowK;rw[if_pos hk]
     have hz:(W6.setCell ⟨n+3,1,none⟩ (.slice A6 an c6)).heap.size=W6.heap.size:=by simp[World.setCell]
     have hown:∀k,(Value.slice A6 an c6).ownBlock=some k→W5.heap.size≤k∧k<W6.heap.size:=fun k hk=>by
      obtain⟨h1,cur,h2⟩:=own_obj H6.out.2.2.1 (g:=k) hk;exact⟨h1,(Array.getElem?_eq_some_iff.1 h2).1⟩
     have R:Rest W5 (W6.setCell ⟨n+3,1,none⟩ (.slice A6 an c6)) (newK wm n) 6 (rowK (newK wm n) W5.heap.size (.slice A6 an c6) 6):=by
      refine⟨(Chg.below H6.out.2.1 _).trans hS (fun k _ hk=>.inl (by rw[show k=n+3 from hk];exact H5.out.1.kR)),hold,fun k hk=>?_⟩;rw[hz];unfold rowK at hk;split at hk
      ·have:=H6.out.2.1.size;omega
      ·split at hk
       ·rename_i h1;exact (hown k h1).2
       ·exact absurd rfl hk
     refine Lib.hid ⟨_,_,H5.out.1.set_attrs R (H6.out.1.hold.set 1 _) (x:=.slice A6 an c6) (l:=attrs) ?_ (fun k hk=>?_),fun k hk=>?_,?_⟩
     ·rw[H6.out.2.2.2];exact hS.owns (own_up H6.out.2.2.1 (fun k _=>Nat.zero_le k)) (fun k hk e=>by have h1:=(hown k hk).1;have h2:=H5.out.1.hold.lt;have e:k=n+3:=e;omega)
     ·unfold rowK;rw[if_neg (by have:=(hown k hk).1;omega),if_pos hk]
     ·rw[hold k (by have:=H5.out.2.1.size;omega)];exact H5.out.2.2.2.1 k hk
     ·have h1:=H5.out.2.1.trans (H6.out.2.1.mono H5.out.2.1.size);exact h1.trans (hS.toBelow h1.size (fun k hk=>by have h2:=HA.out.2.2.2;have h3:=HS2.out;have e:k=n+3:=hk;omega))
  case rest =>
   obtain⟨κ1,v1,h1,hk1,hb1⟩:=hcut.out;have hlm:=first_lm attrs;have hrd:=readsrc_any (sv:=.slice As sn cs) (rb:=n+3) (wm:=wm) hsn HH.out.2.2.2.2.1 hkw 15 (stk:=[]) name t rfl h1 hlm.2 (TwoS.below HH.out.1 hb1) (fun k hk=>⟨Nat.lt_of_lt_of_le (HH.out.2.2.1 k hk) hb1.size,hk1 k (HH.out.2.2.1 k hk)⟩) hlm.1 (Nat.le_refl _) (Nat.le_refl _) (HH.out.2.2.2.2.2.2.1.chg (Chg.below hb1 (fun _=>False)) (fun _ h=>h.elim)) hnz HF.out.2.2;have hrun:=run_of (R:=fun w'=>∃κ' v' stk',ARd w' κ' (n+3) wm (.slice As sn cs) v' (readM src 16 [] name t (firstA attrs)) stk'∧Mv wc w' κ1 κ') (hrd.mono (fun e w' hP=>by
    have hP2:ReadP _ wc κ1 (n+3) wm (.slice As sn cs) v1 [] (readM src 16 [] name t (firstA attrs)) e w':=hP;unfold ReadP at hP2
    by_cases ho:(readM src 16 [] name t (firstA attrs)).over=true
    ·rw[if_pos ho] at hP2;obtain⟨he,κ',v',stk',h2,h3⟩:=hP2;exact⟨⟨κ',v',stk',h2,h3⟩,.inr he⟩
    ·rw[if_neg ho] at hP2;obtain⟨he,κ',v',_,h2,h3⟩:=hP2;exact⟨⟨κ',v',_,h2,h3⟩,.inl he⟩))
   have HR:=hidH4 hrun hk1 hb1 h1.lt;clear hrun hk1 hb1 h1 hrd hlm hcut
   go_wp2_with fail
   refine HR.out.1.mono ?_;rintro e w7 ⟨rfl,κ7,v7,stk7,h7,m7⟩;have hr:=HF.out.2.1;obtain⟨r,hrr⟩:∃r,readM src 16 [] name t (firstA attrs)=r:=⟨_,rfl⟩;rw[hrr] at h7 hr;have c8:=h7.hold.cell 8;have c9:=h7.hold.cell 9;have c10:=h7.hold.cell 10;have c6:=h7.hold.cell 6;simp at c8 c9 c10 c6;obtain⟨A8,k8,hl8,_⟩:=own_rowL h7.lines;obtain⟨A9,k9,hl9,_⟩:=own_rowL h7.diags;obtain⟨A10,k10,hl10,_⟩:=own_rowL h7.files;have hk7:∀k,κ7 k≠0→w.heap.size≤k:=fun k hk=>by
    by_cases e:k<wc.heap.size
    ·rw[m7.same k e] at hk
     rcases Nat.lt_or_ge k w.heap.size with h|h
     ·exact absurd (HR.out.2.1 k h) hk
     ·exact h
    ·have:=HR.out.2.2.1.size;omega
   have hb7:Below w.heap.size w w7:=HR.out.2.2.1.trans (m7.chg.toBelow HR.out.2.2.1.size (fun k hk=>by
    rcases Nat.lt_or_ge k w.heap.size with h|h
    ·exact absurd (HR.out.2.1 k h) hk
    ·exact h))
   have g8:=own_up h7.lines (fun k hk=>hk7 k (by rw[h7.kL k hk];decide));have g9:=own_up h7.diags (fun k hk=>hk7 k (by rw[h7.kG k hk];decide));have g10:=own_up h7.files (fun k hk=>hk7 k (by rw[h7.kF k hk];decide));rw[hl8] at c8 g8;rw[hl9] at c9 g9;rw[hl10] at c10 g10;have hlz:=readS_lm HH.out.2.2.2.2.1 attrs name;rw[hr] at hlz;have m6:=h7.asked.chg ((Chg.refl w7 (fun _=>False)).drew) (fun h=>h);obtain⟨D,hown,hsz,hhas,_⟩:=m6;have hpm:=set_perm h7.uA str_under hown hhas;have hsl:(setFe r.asked).length≤1638416384:=by rw[set_len];exact hlz.2.2.2
   have hsrt:=Tryz.slices_Sorted_keys_52_53 v7.am (setFe r.asked).length D heldR w7.drew hown (by rw[hsz];simp only[maxLen];omega) (by rw[hsz];omega);have hky:=Tryz.maps_Keys_53 (some v7.am) w7.drew;obtain⟨am,ham⟩:∃am,v7.am=am:=⟨_,rfl⟩;rw[ham] at hsrt hky c6;obtain⟨n8,hn8⟩:∃n8,r.lines.length=n8:=⟨_,rfl⟩;obtain⟨n9,hn9⟩:∃n9,r.diags.length=n9:=⟨_,rfl⟩;obtain⟨n10,hn10⟩:∃n10,r.files.length=n10:=⟨_,rfl⟩;rw[hn8] at c8 g8;rw[hn9] at c9 g9;rw[hn10] at c10 g10;have hlt:n+3<w7.heap.size:=h7.hold.lt;have hdz:w7.drew.heap.size=w7.heap.size:=rfl;have D8:(w7.drew.alloc (.cells #[.map (some am)] 91)).cell? ⟨n+3,8,none⟩=some (.slice A8 n8 k8)∧(w7.drew.alloc (.cells #[.map (some am)] 91)).cell? ⟨n+3,9,none⟩=some (.slice A9 n9 k9)∧(w7.drew.alloc (.cells #[.map (some am)] 91)).cell? ⟨n+3,10,none⟩=some (.slice A10 n10 k10)∧(w7.drew.alloc (.cells #[.map (some am)] 91)).cell? ⟨n+3,6,none⟩=some (.map (some am)) :=
    ⟨by rw[World.cell?_alloc_lt _ _ _ (by rw[hdz];exact hlt)];exact c8,by rw[World.cell?_alloc_lt _ _ _ (by rw[hdz];exact hlt)];exact c9,by rw[World.cell?_alloc_lt _ _ _ (by rw[hdz];exact hlt)];exact c10,by rw[World.cell?_alloc_lt _ _ _ (by rw[hdz];exact hlt)];exact c6⟩
   have hb8:Below w7.heap.size w7 (w7.drew.alloc (.cells #[.map (some am)] 91)):=((Below.refl w7.heap.size w7).drew).alloc (Nat.le_refl _) _;have H7:=Lib.hid (And.intro hr (And.intro hpm (And.intro hsrt (And.intro hky (And.intro g8 (And.intro g9 (And.intro g10 (And.intro hb7 (And.intro hb8 (And.intro hn8 (And.intro hn9 (And.intro hn10 (And.intro hlt D8)))))))))))));clear hr hpm hsrt hky g8 g9 g10 hb7 hb8 hn8 hn9 hn10 h7 m7 hlz hown hsz hhas hsl ham hrr hk7 hl8 hl9 hl10
   go_wp2_with fail
   refine wp_region_held_drew (S:=(fun w'=>w'.cell? ⟨n+3,8,none⟩=some (.slice A8 n8 k8)∧w'.cell? ⟨n+3,9,none⟩=some (.slice A9 n9 k9)∧w'.cell? ⟨n+3,10,none⟩=some (.slice A10 n10 k10)∧w'.cell? ⟨n+3,6,none⟩=some (.map (some am)))) (by kernel_rfl) ?_ (fun hHeld0=>?_)
   ·(try dsimp only)
    first|exact⟨c8,c9,c10,c6⟩|exact D8|exact E8
   refine tkH 0 43 ?_;refine tkH 1 44 ?_;refine tkH 2 45 ?_;refine tkH 3 46 ?_;refine tkH 4 47 ?_;refine tkH 5 48 ?_;refine tkH 6 49 ?_;refine tkH 7 50 ?_;refine tkH 8 51 ?_;refine tkH 9 52 ?_;refine tkH 10 53 ?_;refine tkH 11 54 ?_;refine tkH 12 55 ?_;refine tkH 13 56 ?_;refine tkH 14 57 ?_;refine tkH 15 58 ?_;refine rdyH [16] ?_;refine AllReadyH.cons (o:=⟨some 59,_,_,_,_,_⟩) rfl (fun K hK=>?_) AllReadyH.nil;go_simp;refine (callsIn_wide.1 H7.out.2.2.2.1).mono ?_;rintro e w8 ⟨rfl,rfl⟩;refine hK.out _ _ ?_ (fun hHeld1=>?_)
   ·(try dsimp only)
    first|exact⟨c8,c9,c10,c6⟩|exact D8|exact E8
   clear hK K hHeld0
   (try go_frame)
   refine rdyH [17] ?_;refine AllReadyH.cons (o:=⟨some 60,_,_,_,_,_⟩) rfl (fun K hK=>?_) AllReadyH.nil;go_simp;refine (callsIn_wide.1 H7.out.2.2.1).mono ?_;rintro e w9 ⟨vs,ss,rfl,hp,hrow,_,hb9⟩;have hl9:n+3<(w7.drew.alloc (.cells #[.map (some am)] 91)).heap.size:=Nat.lt_of_lt_of_le H7.out.2.2.2.2.2.2.2.2.2.2.2.2.1 H7.out.2.2.2.2.2.2.2.2.1.size;have E8:w9.cell? ⟨n+3,8,none⟩=some (.slice A8 n8 k8)∧w9.cell? ⟨n+3,9,none⟩=some (.slice A9 n9 k9)∧w9.cell? ⟨n+3,10,none⟩=some (.slice A10 n10 k10)∧w9.cell? ⟨n+3,6,none⟩=some (.map (some am)) :=
    ⟨(hb9.cell (p:=⟨n+3,8,none⟩) hl9).trans D8.1,(hb9.cell (p:=⟨n+3,9,none⟩) hl9).trans D8.2.1,(hb9.cell (p:=⟨n+3,10,none⟩) hl9).trans D8.2.2.1,(hb9.cell (p:=⟨n+3,6,none⟩) hl9).trans D8.2.2.2⟩
   have H9:=hidH3 hp hrow hb9;clear hp hrow hb9;refine hK.out _ _ ?_ (fun hHeld2=>?_)
   ·(try dsimp only)
    first|exact⟨c8,c9,c10,c6⟩|exact D8|exact E8
   clear hK K hHeld1
   (try go_frame)
   refine tkH 18 6 ?_;refine tkH 19 7 ?_;refine tkH 20 8 ?_;refine tkH 21 9 ?_;refine wpAnyH_done (by kernel_rfl) ?_ _;go_wp2;refine bodyPost_ret (results_tmp4 rfl _ _ _) rfl ?_;rw[H7.out.1];have hb7:=H7.out.2.2.2.2.2.2.2.1;have hb8:=H7.out.2.2.2.2.2.2.2.2.1;have hb79:Below w7.heap.size w7 w9:=hb8.trans (H9.out.2.2.mono hb8.size);have hch:Chg w7 w9 (fun _=>False):=Chg.below hb79 _;refine⟨.slice A8 n8 k8,.slice A9 n9 k9,.slice A10 n10 k10,vs,rfl,?_,?_,?_,?_,hb7.trans (hb79.mono hb7.size)⟩
   ·rw[H7.out.2.2.2.2.2.2.2.2.2.1];exact hch.owns H7.out.2.2.2.2.1 (fun _ _ h=>h)
   ·rw[H7.out.2.2.2.2.2.2.2.2.2.2.1];exact hch.owns H7.out.2.2.2.2.2.1 (fun _ _ h=>h)
   ·rw[H7.out.2.2.2.2.2.2.2.2.2.2.2.1];exact hch.owns H7.out.2.2.2.2.2.2.1 (fun _ _ h=>h)
   ·have hpp:=mergeSort_of_perm (H9.out.1.trans H7.out.2.1.symm);have e1:rowTx (sortN r.asked)=(ss.mergeSort leB).map encStr:=by
     unfold rowTx sortN;rw[hpp,List.map_map];refine List.map_congr_left (fun x _=>?_);rfl
    have e2:(sortN r.asked).length=ss.length:=by
     unfold sortN;rw[List.length_map,←hpp,List.length_mergeSort]
    rw[e1,e2];exact own_up H9.out.2.1 (fun k hk=>by
     have h1:=(own_obj H9.out.2.1 (g:=k) hk).1;have h2:=hb8.size;have h3:=hb7.size;omega)
end Go.Proofs.YtkdknllcllhpgaaGreatDoor
namespace Go.Bd
mutual
def dw1:Sp→Nat
 | ⟨k,t,_,_,kids⟩=>(if k=0 then max 1 t.length else 1)+dwL kids
def dwL:List Sp→Nat
 | []=>0
 | x::l=>dw1 x+dwL l
end
mutual
theorem many_dw1:∀x:Sp,many1 x≤dw1 x
 | ⟨k,t,u,v,ks⟩=>by
  have:=many_dwL ks
  simp only[many1,dw1];split<;>omega
theorem many_dwL:∀l:List Sp,manyL l≤dwL l
 | []=>Nat.le_refl _
 | x::l=>by
  have h1:=many_dw1 x;have h2:=many_dwL l;simp only[manyL,dwL];omega
end
theorem dwL_app:∀a b:List Sp,dwL (a++b)=dwL a+dwL b
 | [],b=>by simp[dwL]
 | x::a,b=>by rw[List.cons_append,dwL,dwL,dwL_app a b,Nat.add_assoc]
theorem dw_txt {s:Bs} (h:s≠[]):dw1 (txt s)=s.length:=by
 have:=List.length_pos_iff.2 h
 simp only[txt,dw1,if_true,dwL];omega
def dwR (r:Rw):Nat:=dwL r.sp+r.tx.length
def dwF (f:Fr):Nat:=dwR f.row+f.sign.length
def dwFs (l:List Fr):Nat:=(l.map dwF).sum
theorem dwFs_cons (f:Fr) (l:List Fr):dwFs (f::l)=dwF f+dwFs l:=by simp[dwFs]
theorem dwR_write (r:Rw) (s:Bs):dwR (r.write s)=dwR r+s.length:=by simp[dwR,Rw.write];omega
theorem dwL_flush (r:Rw):dwL r.flush.sp=dwR r:=by
 unfold Rw.flush;split
 ·rename_i h;simp[dwR,h]
 ·rename_i h;simp only[dwL_app,dwL,dw_txt h,dwR];omega
theorem dwR_add (r:Rw) (x:Sp):dwR (r.add x)≤dwR r+dw1 x:=by
 obtain⟨k,t,u,v,ks⟩:=x;unfold Rw.add;split
 ·rename_i h;rw[dwR_write,dw1,if_pos h];simp only;omega
 ·simp only[dwR,dwL_app,dwL,List.length_nil];rw[dwL_flush,dwR];omega
theorem dwR_adds:∀(l:List Sp) (r:Rw),dwR (l.foldl Rw.add r)≤dwR r+dwL l
 | [],r=>by simp[dwL]
 | x::l,r=>by
  have h1:=dwR_adds l (r.add x);have h2:=dwR_add r x;simp only[List.foldl_cons,dwL];omega
theorem dwR_spill (f:Fr) (r:Rw):dwR (spill f r)≤dwR r+dwF f:=by
 have:=dwR_adds f.row.sp (r.write f.sign)
 rw[dwR_write] at this;rw[spill,dwR_write,dwF,show dwR f.row=dwL f.row.sp+f.row.tx.length from rfl];omega
theorem dw_onTop {g:Rw→Rw}{n:Nat} (h:∀r,dwR (g r)≤dwR r+n) (l:List Fr):dwFs (onTop g l)≤dwFs l+n:=by
 cases l with
 | nil=>simp[onTop]
 | cons f r =>
  have:=h f.row
  simp only[onTop,dwFs_cons,dwF];omega
theorem dw_write (st:Pst) (s:Bs):dwFs (st.write s).fs≤dwFs st.fs+s.length:=dw_onTop (g:=(·.write s)) (n:=s.length) (fun r=>by rw[dwR_write];exact Nat.le_refl _) st.fs
theorem dw_drop1 (st:Pst):dwFs st.drop1.fs≤dwFs st.fs:=by
 obtain⟨fs,fa⟩:=st
 match fs with
 | []=>exact Nat.le_refl _
 | [f]=>exact Nat.le_refl _
 | f::g::r =>
  have:=dw_onTop (dwR_spill f) (g::r)
  simp only[Pst.drop1,dwFs_cons] at *;omega
theorem dw_dropN:∀(n:Nat) (st:Pst),dwFs (st.dropN n).fs≤dwFs st.fs
 | 0,_=>Nat.le_refl _
 | n+1,st=>Nat.le_trans (dw_dropN n st.drop1) (dw_drop1 st)
theorem dw_fin (st:Pst) (n:Nat):dwFs (st.fin n).fs≤dwFs st.fs+1:=by
 have h:=dw_dropN (st.fs.length-1-n) st;unfold Pst.fin Pst.drop;generalize st.dropN (st.fs.length-1-n)=sd at h;obtain⟨fs,fa⟩:=sd
 match fs,h with
 | [],h=>simp only[Pst.shut] at *;omega
 | f::r,h =>
  have e:dw1 ⟨f.kind,[],[],[],f.row.flush.sp⟩=1+dwR f.row:=by
   simp only[dw1,dwL_flush];split<;>rfl
  have:=dw_onTop (n:=1+dwR f.row) (g:=(·.add ⟨f.kind,[],[],[],f.row.flush.sp⟩)) (fun q=>by rw[←e];exact dwR_add q _) r
  simp only[Pst.shut,dwFs_cons,dwF] at *;omega
theorem dw_between {st:Pst}{s a b:Bs}{i:Nat}{asf:Bs→Sp ⊕ Nat} (has:asf=codeS∨asf=refS∨asf=termS) (ha:1≤a.length) (hb:1≤b.length) (hi:i+a.length≤s.length) (h:dwFs st.fs≤i):dwFs (st.between s i a b asf).1.fs≤(st.between s i a b asf).2:=by
 unfold Pst.between;split
 ·have:=dw_write st a
  exact Nat.le_trans this (by simp only;omega)
 ·rename_i n hn;obtain⟨h1,h2⟩:=nextAt_some hi hn;split
  ·have:=dw_write st ((s.drop i).take (n+b.length-i))
   rw[List.length_take,List.length_drop] at this;exact Nat.le_trans this (by simp only;omega)
  ·rename_i x hx;obtain⟨_,p2,p3,_⟩:=as_wt has hx;have e:dw1 x=1:=by
    obtain⟨k,t,u,v,ks⟩:=x;simp only at p2 p3;subst p3;simp only[dw1,if_neg p2,dwL]
   have:=dw_onTop (n:=1) (g:=(·.add x)) (fun q=>by rw[←e];exact dwR_add q _) st.fs
   exact Nat.le_trans this (by simp only;omega)
theorem dw_begin (st:Pst) (k i:Nat) (sign:Bs):dwFs (st.begin k i sign).fs=dwFs st.fs+sign.length:=by
 simp only[Pst.begin,dwFs_cons,dwF,dwR,Rw.none,dwL,List.length_nil];omega
theorem dw_mark {st:Pst}{s:Bs}{i k:Nat} (h:dwFs st.fs≤i):dwFs (st.mark s i k).fs≤i+1:=by
 unfold Pst.mark;split
 ·have:=dw_fin st (lastK k st.fs);omega
 ·split
  ·have:=dw_write st [s.getD i 0];simp only[List.length_cons,List.length_nil] at this;omega
  ·split
   ·have:=dw_write st [s.getD i 0];simp only[List.length_cons,List.length_nil] at this;exact Nat.le_trans this (by omega)
   ·rw[dw_begin];simp only[List.length_cons,List.length_nil];omega
theorem dw_step {st:Pst}{s:Bs}{i:Nat} (hi:i<s.length) (h:dwFs st.fs≤i):dwFs (st.step s i).1.fs≤(st.step s i).2:=by
 unfold Pst.step;split
 ·have:=dw_write st [s.getD (i+1) 0];simp only[List.length_cons,List.length_nil] at this;simp only;omega
 split
 ·exact dw_between (.inl rfl) (by simp) (by simp) (by simp;omega) h
 split
 ·rename_i hp;exact dw_between (.inr (.inl rfl)) (by simp) (by simp) (prefix_two hp) h
 split
 ·rename_i hp;exact dw_between (.inr (.inr rfl)) (by simp) (by simp) (prefix_two hp) h
 split
 ·simp only;split
  ·rw[dw_begin];simp only[List.length_cons,List.length_nil];omega
  ·have:=dw_write st [94,91];simp only[List.length_cons,List.length_nil] at this;exact Nat.le_trans this (by omega)
 split
 ·have:=dw_fin st (lastK 6 st.fs);simp only;omega
 split
 ·exact dw_mark h
 split
 ·exact dw_mark h
 ·have:=dw_write st [s.getD i 0];simp only[List.length_cons,List.length_nil] at this;simp only;omega
theorem dw_run {s:Bs}:∀(n i:Nat) (st:Pst),Inv st i→dwFs st.fs≤i→i≤s.length→dwFs (runP s n i st).fs≤s.length
 | 0,i,st,_,h,hi=>Nat.le_trans h hi
 | n+1,i,st,hI,h,hi=>by
  rw[runP];split
  ·rename_i hlt;obtain⟨h3,h4,h5⟩:=hI.step hlt;exact dw_run n _ _ h3 (dw_step hlt h) h5
  ·exact Nat.le_trans h hi
theorem many_spans (s:Bs):manyL (spansOf s)≤s.length:=by
 have h:=dw_run (s:=s) s.length 0 Pst.first Inv.first (by decide) (Nat.zero_le _);have h2:=dw_dropN ((runP s s.length 0 Pst.first).fs.length-1-0) (runP s s.length 0 Pst.first);obtain⟨f,hf⟩:=endP_one s;have h3:dwFs (endP s).fs≤s.length:=Nat.le_trans h2 h;rw[hf,dwFs_cons] at h3;unfold spansOf;rw[hf];simp only;have h4:=many_dwL f.row.flush.sp;rw[dwL_flush] at h4;unfold dwF at h3;omega
end Go.Bd
namespace Go.Bd
open Go.RowKit
theorem rowBl_get:∀{l:List Bl}{kvs:List (Value×Value)}{j:Nat}{x:Bl}{kv:Value×Value}{i:Nat}{u:Value},l[j]? = some x→kvs[j]? = some kv→(blCells x kv)[i]? = some u→(rowBl l kvs)[j*9+i]? = some u
 | [],_,j,x,kv,i,u,h,_,_=>by simp at h
 | y::l,[],j,x,kv,i,u,_,h,_=>by simp at h
 | y::l,ku::kvs,0,x,kv,i,u,h,h2,hu=>by
  simp only[List.getElem?_cons_zero,Option.some.injEq] at h h2;subst h h2;have hi:=(List.getElem?_eq_some_iff.1 hu).1;rw[rowBl,Nat.zero_mul,Nat.zero_add,List.getElem?_append_left hi];exact hu
 | y::l,ku::kvs,j+1,x,kv,i,u,h,h2,hu=>by
  simp only[List.getElem?_cons_succ] at h h2;have ih:=rowBl_get (l:=l) (kvs:=kvs) h h2 hu;have e:(blCells y ku).length=9:=rfl;rw[rowBl,List.getElem?_append_right (by rw[e];omega),e,show (j+1)*9+i-9=j*9+i by omega];exact ih
theorem rowD_get:∀{l:List Dg}{j:Nat}{x:Dg}{i:Nat}{u:Value},l[j]? = some x→(dgCells x)[i]? = some u→(rowD l)[j*4+i]? = some u
 | [],j,x,i,u,h,_=>by simp at h
 | y::l,0,x,i,u,h,hu=>by
  simp only[List.getElem?_cons_zero,Option.some.injEq] at h;subst h;have hi:=(List.getElem?_eq_some_iff.1 hu).1;rw[rowD,Nat.zero_mul,Nat.zero_add,List.getElem?_append_left hi];exact hu
 | y::l,j+1,x,i,u,h,hu=>by
  simp only[List.getElem?_cons_succ] at h;have ih:=rowD_get (l:=l) h hu;have e:(dgCells y).length=4:=rfl;rw[rowD,List.getElem?_append_right (by rw[e];omega),e,show (j+1)*4+i-4=j*4+i by omega];exact ih
section
variable {w w':World} {O F:Nat→Prop} {rb:Nat} {lv:Value} {pos:Nat} {bv:Value} {bs:List Bl} {dv:Value} {ds:List Dg}
theorem Rdr.bform (h:Rdr w O F rb lv pos bv bs dv ds):∃A c,bv=.slice A bs.length c:=by
 obtain⟨kvs,_,h2,_⟩:=h.bl
 rcases h2.2 with ⟨h1,h2⟩|⟨g,cap,cur,h1,_⟩
 ·exact⟨none,0,by rw[h1,h2]⟩
 ·exact⟨_,_,h1⟩
theorem Rdr.dform (h:Rdr w O F rb lv pos bv bs dv ds):∃A c,dv=.slice A ds.length c:=by
 rcases h.dg.2 with ⟨h1,h2⟩|⟨g,cap,cur,h1,_⟩
 ·exact⟨none,0,by rw[h1,h2]⟩
 ·exact⟨_,_,h1⟩
theorem Rdr.blk_at {A:Option Addr}{n c:Nat} (h:Rdr w O F rb lv pos (.slice A n c) bs dv ds){j:Nat}{x:Bl} (hx:bs[j]? = some x):∃g sA sc rA rc,A=some ⟨g,0,none⟩∧O g∧Forest w F (.slice sA x.spans.length sc) x.spans∧RowsF w F (.slice rA x.rows.length rc) x.rows ∧
  w.cell? ⟨g,j*9,none⟩=some (.int .u8 (x.kind:Int))∧w.cell? ⟨g,j*9+1,none⟩=some (.int .i64 (x.level:Int))∧w.cell? ⟨g,j*9+2,none⟩=some (.bool x.ordered)∧w.cell? ⟨g,j*9+3,none⟩=some (.string x.label)∧w.cell? ⟨g,j*9+4,none⟩=some (.string x.text) ∧
  w.cell? ⟨g,j*9+5,none⟩=some (.slice sA x.spans.length sc)∧w.cell? ⟨g,j*9+6,none⟩=some (.slice rA x.rows.length rc)∧w.cell? ⟨g,j*9+7,none⟩=some (.string x.file)∧w.cell? ⟨g,j*9+8,none⟩=some (.int .i64 x.line):=by
 obtain⟨kvs,h1,h2,h3⟩:=h.bl;have hj:=(List.getElem?_eq_some_iff.1 hx).1;obtain⟨kv,hkv⟩:∃kv,kvs[j]? = some kv:=⟨_,List.getElem?_eq_getElem (by omega)⟩;obtain⟨hf,hr⟩:=h3 j x kv hx hkv;obtain⟨k1,k2⟩:=kv;obtain⟨sA,sc,rfl,_⟩:=hf.form;obtain⟨rA,rc,rfl,_⟩:=hr.len
 rcases h2.2 with ⟨e1,e2⟩|⟨g,cap,cur,e1,_⟩
 ·omega
 injection e1 with e1 e2 e3
 subst e1;have hc:=fun i u hu=>h2.cells (g:=g) rfl _ u (rowBl_get (i:=i) hx hkv hu)
 simp only[addr_add] at hc;exact⟨g,sA,sc,rA,rc,rfl,(h.oB g rfl).1,hf,hr,hc 0 _ rfl,hc 1 _ rfl,hc 2 _ rfl,hc 3 _ rfl,hc 4 _ rfl,hc 5 _ rfl,hc 6 _ rfl,hc 7 _ rfl,hc 8 _ rfl⟩
end
def TreesAt (w:World) (F:Nat→Prop) (bs:List Bl) (kvs:List (Value×Value)):Prop:=∀(j:Nat) x kv,bs[j]? = some x→kvs[j]? = some kv→Forest w F kv.1 x.spans∧RowsF w F kv.2 x.rows
theorem TreesAt.chg {w w':World}{F G S:Nat→Prop}{bs:List Bl}{kvs:List (Value×Value)} (h:TreesAt w F bs kvs) (hc:Chg w w' S) (hF:∀k,F k→G k) (hS:∀k,F k→¬S k):TreesAt w' G bs kvs :=
 fun j x kv hx hk=>⟨(h j x kv hx hk).1.chg hc hF hS,RowsF.stays.go (h j x kv hx hk).2 hc hF hS⟩
theorem BlocksAt.own {w:World}{base B:Nat}{v:Value}{bs:List Bl}{kvs:List (Value×Value)} (h:w.ownsRow base tBl 9 v bs.length (rowBl bs kvs)) (hl:kvs.length=bs.length) (hT:TreesAt w (· < B) bs kvs) (hB:w.heap.size≤B):BlocksAt w B v bs:=by
 rcases h.2 with ⟨h1,h2⟩|⟨g,cap,cur,rfl,h2,h3,h4,_⟩
 ·have e:bs=[]:=List.length_eq_zero_iff.1 h2;subst e;exact⟨none,0,kvs,h1,Nat.le_refl _,hl,fun hn=>absurd rfl hn,hT⟩
 ·refine⟨_,cap,kvs,rfl,h4,hl,fun _=>⟨g,0,rfl,Nat.lt_of_lt_of_le (Array.getElem?_eq_some_iff.1 h3).1 hB,fun j x kv hj hk i u hu=>?_⟩,hT⟩;have h5:=h.cells (g:=g) rfl _ _ (rowBl_get hj hk hu);rw[addr_add] at h5;rw[Nat.zero_add];exact h5
theorem DiagsAt.own {w:World}{base B:Nat}{v:Value}{ds:List Dg} (h:w.ownsRow base tDg 4 v ds.length (rowD ds)) (hB:w.heap.size≤B):DiagsAt w B v ds:=by
 rcases h.2 with ⟨h1,h2⟩|⟨g,cap,cur,rfl,h2,h3,h4,_⟩
 ·have e:ds=[]:=List.length_eq_zero_iff.1 h2;subst e;exact⟨none,0,h1,Nat.le_refl _,fun hn=>absurd rfl hn⟩
 ·refine⟨_,cap,rfl,h4,fun _=>⟨g,0,rfl,Nat.lt_of_lt_of_le (Array.getElem?_eq_some_iff.1 h3).1 hB,fun j x hj i u hu=>?_⟩⟩;have h5:=h.cells (g:=g) rfl _ _ (rowD_get hj hu);rw[addr_add] at h5;rw[Nat.zero_add];exact h5
end Go.Bd
namespace Go.Proofs.YtkdknllcllhpgaaGreatDoor
open Go.RowKit Go.Bd
theorem BlkSm.plain {x:Bl} (h:manyL x.spans≤1000000000) (hr:x.rows=[]):BlkSm x:=by
 unfold BlkSm;rw[hr];refine⟨h,?_,Nat.zero_le _⟩;intro r hr;cases hr
theorem spans_sm {s:Bs} (h:s.length≤100000000):manyL (spansOf s)≤1000000000:=by have:=many_spans s;omega
theorem rowOf_len (s:ByteArray):(rowOf s).length≤s.size+1:=by
 have h1:(rowOf s).length≤(pieces ⟨(Lib.trimPrefix (trim s.data.toList) [124]).toArray⟩).length:=by
  unfold rowOf dropEnd;split
  ·rw[List.length_take,List.length_map];omega
  ·rw[List.length_map];exact Nat.le_refl _
 have h2:=Lib.countB_le bar (by decide) _ ⟨(Lib.trimPrefix (trim s.data.toList) [124]).toArray⟩ (Nat.le_refl _);rw[pieces_length] at h1;rw[size_mk] at h2;have h3:(Lib.trimPrefix (trim s.data.toList) [124]).length≤(trim s.data.toList).length:=by
  unfold Lib.trimPrefix;split
  ·rw[List.length_drop];omega
  ·exact Nat.le_refl _
 have h4:=trim_size s;omega
theorem rows_sm:∀{l:List Ln},wtX l≤100000000→∀r∈l.flatMap rowT,(∀c∈r,manyL c≤1000000000)∧r.length≤1000000000
 | [],_,r,h=>by simp at h
 | x::l,hw,r,h=>by
  rw[wtX] at hw;rw[List.flatMap_cons] at h
  rcases List.mem_append.1 h with h|h
  ·unfold rowT at h;split at h
   ·cases h
   ·rw[List.mem_singleton] at h;subst h;have h0:(tr x.text).size≤x.text.size:=tr_le x.text;refine⟨fun c hc=>?_,?_⟩
    ·obtain⟨t,ht,rfl⟩:=List.mem_map.1 hc;have h1:=rowOf_sum (tr x.text);have h2:=le_sum_mem (List.mem_map_of_mem (f:=(·.size)) ht);have h3:=size_list t;exact spans_sm (by omega)
    ·rw[List.length_map];have:=rowOf_len (tr x.text)
     omega
  ·exact rows_sm (l:=l) (by omega) r h
def BlkSy (x:Bl):Prop:=BlkSm x∧(sayL x.spans).length≤1000000000
theorem spans_sy {s:Bs} (h:s.length≤100000000):manyL (spansOf s)≤1000000000∧(sayL (spansOf s)).length≤1000000000:=⟨spans_sm h,by have:=say_spans s;omega⟩
theorem BlkSy.plain {x:Bl} (h:manyL x.spans≤1000000000∧(sayL x.spans).length≤1000000000) (hr:x.rows=[]):BlkSy x:=⟨BlkSm.plain h.1 hr,h.2⟩
theorem titled_sm {x:Bl}{f:ByteArray}{no:Int}{s:ByteArray} (h:s.size≤100000000) (hr:(∀r∈x.rows,(∀c∈r,manyL c≤1000000000)∧r.length≤1000000000)∧x.rows.length≤1000000000):BlkSy (titledB x f no s):=by
 have h1:=titleB_le s.data.toList;have h2:=size_list s;have h3:=spans_sy (s:=(titleB s.data.toList).1) (by omega);exact⟨⟨h3.1,hr.1,hr.2⟩,h3.2⟩
theorem no_rows_sm:(∀r∈([]:List (List (List Sp))),(∀c∈r,manyL c≤1000000000)∧r.length≤1000000000)∧([]:List (List (List Sp))).length≤1000000000:=by
 refine⟨?_,Nat.zero_le _⟩;intro r h;cases h
theorem cmd_sm (f:ByteArray) (no:Int) (s:ByteArray) (wd bh:Bs) (h:bh.length≤100000000):∀b∈(cmdR f no s wd bh).2.1,BlkSy b:=by
 unfold cmdR;split
 ·split
  ·intro b hb;cases hb
  ·intro b hb;simp only[figR,List.mem_singleton] at hb;subst hb;have:=fig_le bh
   exact titled_sm (by rw[size_mk];omega) no_rows_sm
 split
 ·intro b hb;simp only[noteR,List.mem_singleton] at hb;subst hb;exact BlkSy.plain (spans_sy h) rfl
 ·intro b hb;cases hb
theorem read_sm (f:ByteArray) (no:Int) (s:ByteArray) (rest:List Ln) (h:s.size+wtX rest≤100000000):∀b∈(readR f no s rest).2.1,BlkSy b:=by
 unfold readR;split
 ·intro b hb;simp only[headR,List.mem_singleton] at hb;subst hb;have h2:=lead_le s.data.toList 61;have h3:=size_list s;exact titled_sm (by rw[size_mk];omega) no_rows_sm
 split
 ·intro b hb;simp only[itemR,List.mem_singleton] at hb;subst hb;have hiz:(itemB s.data.toList).2.2.length≤s.size:=by
   have h1:=trim_size s;unfold itemB;split
   ·exact Nat.le_trans (lead_le _ _) h1
   ·split
    ·exact Nat.le_trans (lead_le _ _) h1
    ·simp
  exact BlkSy.plain (spans_sy (by omega)) rfl
 split
 ·intro b hb;cases hb
 split
 ·intro b hb;simp only[codeR,List.mem_singleton] at hb;subst hb;exact BlkSy.plain ⟨Nat.zero_le _,Nat.zero_le _⟩ rfl
 split
 ·intro b hb;simp only[tableR,List.mem_singleton] at hb;subst hb;have h4:(tabT s).size≤s.size:=by
   unfold tabT;rw[size_mk];have:=dropL_le (s.data.toList.drop 4)
   rw[List.length_drop,←size_list] at this;omega
  have h5:=wtX_split rest (tabN rest);have h6:=rowTs_le (rest.take (tabN rest));have h7:=wtX_len (rest.take (tabN rest));exact titled_sm (by omega) ⟨rows_sm (l:=rest.take (tabN rest)) (by omega),by show ((rest.take (tabN rest)).flatMap rowT).length≤1000000000;omega⟩
 ·intro b hb;simp only[paraR,List.mem_singleton] at hb;subst hb;have h1:=tail_len (rest.take (untilN (fun t=>!plainL t) rest));have h3:(paraB rest 0 s).length≤s.size+wtX (rest.take (untilN (fun t=>!plainL t) rest)):=by
   unfold paraB paraT;rw[List.drop_zero,Lib.join_cons,List.length_append,←size_list];omega
  have h5:=wtX_split rest (untilN (fun t=>!plainL t) rest);exact BlkSy.plain (spans_sy (by omega)) rfl
theorem step_sm (x:Ln) (rest:List Ln) (h:wtX (x::rest)≤100000000):∀b∈(stepR x rest).2.1,BlkSy b:=by
 rw[wtX] at h;have hs:(tr x.text).size≤x.text.size:=tr_le x.text;unfold stepR;split
 ·rename_i p hp;have h2:=(command_le hp).2;have h3:=trim_size x.text;exact cmd_sm _ _ _ _ _ (by omega)
 ·exact read_sm _ _ _ _ (by omega)
theorem blocks_sm:∀(m:Nat) (l:List Ln),l.length≤m→wtX l≤100000000→∀b∈blocksOf l,BlkSy b
 | _,[],_,_,b,hb=>by rw[blocksOf_nil] at hb;cases hb
 | 0,x::l,h,_,_,_=>by simp at h
 | m+1,x::l,h,hw,b,hb=>by
  rw[blocksOf_cons] at hb
  rcases List.mem_append.1 hb with hb|hb
  ·exact step_sm x l hw b hb
  ·have h1:=wtX_split l (stepR x l).1;rw[wtX] at hw;exact blocks_sm m (l.drop (stepR x l).1) (by simp at h ⊢;omega) (by omega) b hb
end Go.Proofs.YtkdknllcllhpgaaGreatDoor
namespace Go.Bd
open Go.RowKit Go.Proofs.YtkdknllcllhpgaaGreatDoor
structure Ch where
 name:ByteArray
 blocks:List Bl
 diags:List Dg
 files:List ByteArray
 attrs:List At
 unset:List ByteArray
def opensB (b:Bl):Bool:=decide (b.kind=1)&&decide (b.level=1)
def firstD (name:ByteArray):List Bl→List Dg
 | []=>[⟨name,1,13,⟨#[]⟩⟩]
 | b::_=>if opensB b then [] else [⟨name,1,13,⟨#[]⟩⟩]
def againD (l:List Bl):List Dg:=(l.filter opensB).map fun b=>⟨b.file,b.line,13,ofB (sayL b.spans)⟩
def gotA (a:List At) (l:List ByteArray):List At:=l.filterMap fun n=>(getA a n).map fun v=>⟨n,v⟩
def lackA (a:List At) (l:List ByteArray):List ByteArray:=l.filter fun n=>(getA a n).isNone
def chapR (r:Ast) (a:List At) (name:ByteArray):Ch :=
 ⟨name,blocksOf r.lines,r.diags++diagsOf r.lines++firstD name (blocksOf r.lines)++againD (blocksOf r.lines).tail,r.files,gotA a (sortN r.asked),lackA a (sortN r.asked)⟩
def chapM (src:List Sc) (attrs:List At) (name:ByteArray):Ch:=chapR (readS src attrs name) (firstA attrs).attrs name
theorem againD_snoc (l:List Bl) (b:Bl):againD (l++[b])=againD l++if opensB b then [⟨b.file,b.line,13,ofB (sayL b.spans)⟩] else []:=by
 unfold againD;rw[List.filter_append,List.map_append];cases h:opensB b<;>simp[h]
theorem gotA_snoc (a:List At) (l:List ByteArray) (n:ByteArray):gotA a (l++[n])=gotA a l++match getA a n with|some v=>[⟨n,v⟩]|none=>[]:=by
 unfold gotA;rw[List.filterMap_append];cases h:getA a n<;>simp[h]
theorem lackA_snoc (a:List At) (l:List ByteArray) (n:ByteArray):lackA a (l++[n])=lackA a l++match getA a n with|some _=>[]|none=>[n]:=by
 unfold lackA;rw[List.filter_append];cases h:getA a n<;>simp[h]
def TxS (w:World) (S:Nat→Prop) (v:Value) (l:List ByteArray):Prop :=
 ∃A c,v=.slice A l.length c∧l.length≤c∧∀(j:Nat) s,l[j]? = some s→∃b off,A=some ⟨b,off,none⟩∧S b∧w.cell? ⟨b,off+j,none⟩=some (.string s)
end Go.Bd
namespace Go.Proofs.YtkdknllcllhpgaaGreatDoor
open Go.RowKit Go.Bd
def tCh:TypeId:=27
theorem TxS.own {w:World}{b n:Nat}{v:Value}{l:List ByteArray} (h:w.ownsRow b tTx 1 v n (rowTx l)) (hn:n=l.length){S:Nat→Prop} (hS:∀k,v.ownBlock=some k→S k):TxS w S v l:=by
 subst hn
 rcases h.2 with ⟨h1,h2⟩|⟨g,cap,cur,h1,_,_,h4,_⟩
 ·exact⟨none,0,by rw[h1,h2],by rw[h2];exact Nat.le_refl _,fun j s hj=>by have:=(List.getElem?_eq_some_iff.1 hj).1;omega⟩
 ·refine⟨_,cap,h1,h4,fun j s hj=>?_⟩;have hc:=h.cells (g:=g) (by rw[h1];rfl) j (.string s) (by unfold rowTx;rw[List.getElem?_map,hj];rfl);rw[addr_add] at hc;refine⟨g,0,rfl,hS g (by rw[h1];rfl),?_⟩;rw[Nat.zero_add];exact hc
theorem AtS.own {w:World}{b n:Nat}{v:Value}{l:List At} (h:w.ownsRow b tAt 2 v n (rowAt l)) (hn:n=l.length){S:Nat→Prop} (hS:∀k,v.ownBlock=some k→S k):AtS w S v l:=by
 subst hn;unfold AtS TwoS;rw[List.length_map]
 rcases h.2 with ⟨h1,h2⟩|⟨g,cap,cur,h1,_,_,h4,_⟩
 ·exact⟨none,0,by rw[h1,h2],by rw[h2];exact Nat.le_refl _,fun j s hj=>by have:=(List.getElem?_eq_some_iff.1 hj).1;rw[List.length_map] at this;omega⟩
 ·refine⟨_,cap,h1,h4,fun j f hj=>?_⟩;rw[List.getElem?_map] at hj;cases ha:l[j]? with
  | none=>rw[ha] at hj;cases hj
  | some a =>
   rw[ha] at hj;cases hj
   have hc:=fun i u (hu:(atCells a)[i]? = some u)=>h.cells (g:=g) (by rw[h1];rfl) (j*2+i) u (flat_get atCells 2 (fun _=>rfl) ha hu)
   refine⟨g,0,rfl,hS g (by rw[h1];rfl),?_,?_⟩
   ·have:=hc 0 _ rfl
    rw[addr_add] at this;rw[Nat.zero_add];exact this
   ·have:=hc 1 _ rfl
    rw[addr_add] at this;rw[Nat.zero_add];exact this
theorem LinesAt.own {w:World}{b n:Nat}{v:Value}{l:List Ln} (h:w.ownsRow b tLn 3 v n (rowLn l)) (hn:n=l.length){S:Nat→Prop} (hS:∀k,v.ownBlock=some k→S k):LinesAt w S v l:=by
 subst hn;unfold LinesAt
 rcases h.2 with ⟨h1,h2⟩|⟨g,cap,cur,h1,_,_,h4,_⟩
 ·exact⟨none,0,by rw[h1,h2],by rw[h2];exact Nat.le_refl _,fun hne=>absurd (List.length_eq_zero_iff.1 h2) hne⟩
 ·refine⟨_,cap,h1,h4,fun _=>⟨g,0,rfl,hS g (by rw[h1];rfl),fun j x hj i u hu=>?_⟩⟩;have hc:=h.cells (g:=g) (by rw[h1];rfl) (j*3+i) u (flat_get lnCells 3 (fun _=>rfl) hj hu);rw[addr_add] at hc;rw[Nat.zero_add];exact hc
structure ChR (w:World) (C:Nat) (name:ByteArray) (bv fv D Av Uv:Value) (ds:List Dg) (ats:List At) (us:List ByteArray):Prop where
 hold:Holds w C tCh #[.string name,bv,D,fv,Av,Uv]
 d:w.ownsRow (C+1) tDg 4 D ds.length (rowD ds)
 a:w.ownsRow (C+1) tAt 2 Av ats.length (rowAt ats)
 u:w.ownsRow (C+1) tTx 1 Uv us.length (rowTx us)
 da:∀k,D.ownBlock=some k→Av.ownBlock≠some k
 du:∀k,D.ownBlock=some k→Uv.ownBlock≠some k
 au:∀k,Av.ownBlock=some k→Uv.ownBlock≠some k
section
variable {w w2:World} {C:Nat} {name:ByteArray} {bv fv D Av Uv:Value} {ds:List Dg} {ats:List At} {us:List ByteArray}
theorem own_lt {b sz n:Nat}{e:TypeId}{v:Value}{xs:List Value} (h:w.ownsRow b e sz v n xs){k:Nat} (hk:v.ownBlock=some k):b≤k∧k<w.heap.size:=by
 obtain⟨h1,cur,h2⟩:=own_obj h (g:=k) hk;exact⟨h1,(Array.getElem?_eq_some_iff.1 h2).1⟩
theorem ChR.chg {S:Nat→Prop} (h:ChR w C name bv fv D Av Uv ds ats us) (hc:Chg w w2 S) (hS:∀k,S k→¬C≤k):ChR w2 C name bv fv D Av Uv ds ats us :=
 ⟨hc.holds (fun e=>hS C e (Nat.le_refl _)) h.hold,hc.owns h.d (fun k hk e=>hS k e (by have:=(own_lt h.d hk).1;omega)),hc.owns h.a (fun k hk e=>hS k e (by have:=(own_lt h.a hk).1;omega)),hc.owns h.u (fun k hk e=>hS k e (by have:=(own_lt h.u hk).1;omega)),h.da,h.du,h.au⟩
theorem ChR.below (h:ChR w C name bv fv D Av Uv ds ats us) (hb:Below w.heap.size w w2):ChR w2 C name bv fv D Av Uv ds ats us:=h.chg (Chg.below hb (fun _=>False)) (fun _ h=>h.elim)
theorem ChR.set_d (h:ChR w C name bv fv D Av Uv ds ats us) (hc:Chg w w2 (fun k=>D.ownBlock=some k)){D':Value}{ds':List Dg} (ho:w2.ownsRow (C+1) tDg 4 D' ds'.length (rowD ds')) (hn:∀k,D'.ownBlock=some k→D.ownBlock=some k∨w.heap.size≤k) :
  ChR (w2.setCell ⟨C,2,none⟩ D') C name bv fv D' Av Uv ds' ats us∧Below C w (w2.setCell ⟨C,2,none⟩ D'):=by
 have hS:=Chg.set w2 ⟨C,2,none⟩ D';have hCl:=h.hold.lt;have hz:(w2.setCell ⟨C,2,none⟩ D').heap.size=w2.heap.size:=by simp[World.setCell]
 refine⟨⟨(hc.holds (fun e=>by have:=(own_lt h.d e).1;omega) h.hold).set 2 _,hS.owns ho (fun k hk e=>by have h1:=(own_lt ho hk).1;have e:k=C:=e;omega),hS.owns (hc.owns h.a (fun k hk e=>h.da k e hk)) (fun k hk e=>by have h1:=(own_lt h.a hk).1;have e:k=C:=e;omega),hS.owns (hc.owns h.u (fun k hk e=>h.du k e hk)) (fun k hk e=>by have h1:=(own_lt h.u hk).1;have e:k=C:=e;omega),fun k hk e=>?_,fun k hk e=>?_,h.au⟩,?_⟩
 ·rcases hn k hk with h1|h1
  ·exact h.da k h1 e
  ·have:=(own_lt h.a e).2;omega
 ·rcases hn k hk with h1|h1
  ·exact h.du k h1 e
  ·have:=(own_lt h.u e).2;omega
 ·exact (hc.toBelow (by omega) (fun k hk=>by have:=(own_lt h.d hk).1;omega)).trans (hS.toBelow (by have:=hc.size;omega) (fun k hk=>Nat.le_of_eq hk.symm))
theorem ChR.set_a (h:ChR w C name bv fv D Av Uv ds ats us) (hc:Chg w w2 (fun k=>Av.ownBlock=some k)){A':Value}{ats':List At} (ho:w2.ownsRow (C+1) tAt 2 A' ats'.length (rowAt ats')) (hn:∀k,A'.ownBlock=some k→Av.ownBlock=some k∨w.heap.size≤k) :
  ChR (w2.setCell ⟨C,4,none⟩ A') C name bv fv D A' Uv ds ats' us∧Below C w (w2.setCell ⟨C,4,none⟩ A'):=by
 have hS:=Chg.set w2 ⟨C,4,none⟩ A';have hCl:=h.hold.lt;have hz:(w2.setCell ⟨C,4,none⟩ A').heap.size=w2.heap.size:=by simp[World.setCell]
 refine⟨⟨(hc.holds (fun e=>by have:=(own_lt h.a e).1;omega) h.hold).set 4 _,hS.owns (hc.owns h.d (fun k hk e=>h.da k hk e)) (fun k hk e=>by have h1:=(own_lt h.d hk).1;have e:k=C:=e;omega),hS.owns ho (fun k hk e=>by have h1:=(own_lt ho hk).1;have e:k=C:=e;omega),hS.owns (hc.owns h.u (fun k hk e=>h.au k e hk)) (fun k hk e=>by have h1:=(own_lt h.u hk).1;have e:k=C:=e;omega),fun k hk e=>?_,h.du,fun k hk e=>?_⟩,?_⟩
 ·rcases hn k e with h1|h1
  ·exact h.da k hk h1
  ·have:=(own_lt h.d hk).2;omega
 ·rcases hn k hk with h1|h1
  ·exact h.au k h1 e
  ·have:=(own_lt h.u e).2;omega
 ·exact (hc.toBelow (by omega) (fun k hk=>by have:=(own_lt h.a hk).1;omega)).trans (hS.toBelow (by have:=hc.size;omega) (fun k hk=>Nat.le_of_eq hk.symm))
theorem ChR.set_u (h:ChR w C name bv fv D Av Uv ds ats us) (hc:Chg w w2 (fun k=>Uv.ownBlock=some k)){U':Value}{us':List ByteArray} (ho:w2.ownsRow (C+1) tTx 1 U' us'.length (rowTx us')) (hn:∀k,U'.ownBlock=some k→Uv.ownBlock=some k∨w.heap.size≤k) :
  ChR (w2.setCell ⟨C,5,none⟩ U') C name bv fv D Av U' ds ats us'∧Below C w (w2.setCell ⟨C,5,none⟩ U'):=by
 have hS:=Chg.set w2 ⟨C,5,none⟩ U';have hCl:=h.hold.lt;have hz:(w2.setCell ⟨C,5,none⟩ U').heap.size=w2.heap.size:=by simp[World.setCell]
 refine⟨⟨(hc.holds (fun e=>by have:=(own_lt h.u e).1;omega) h.hold).set 5 _,hS.owns (hc.owns h.d (fun k hk e=>h.du k hk e)) (fun k hk e=>by have h1:=(own_lt h.d hk).1;have e:k=C:=e;omega),hS.owns (hc.owns h.a (fun k hk e=>h.au k hk e)) (fun k hk e=>by have h1:=(own_lt h.a hk).1;have e:k=C:=e;omega),hS.owns ho (fun k hk e=>by have h1:=(own_lt ho hk).1;have e:k=C:=e;omega),h.da,fun k hk e=>?_,fun k hk e=>?_⟩,?_⟩
 ·rcases hn k e with h1|h1
  ·exact h.du k hk h1
  ·have:=(own_lt h.d hk).2;omega
 ·rcases hn k e with h1|h1
  ·exact h.au k hk h1
  ·have:=(own_lt h.a hk).2;omega
 ·exact (hc.toBelow (by omega) (fun k hk=>by have:=(own_lt h.u hk).1;omega)).trans (hS.toBelow (by have:=hc.size;omega) (fun k hk=>Nat.le_of_eq hk.symm))
end
def ChAt (w:World) (B:Nat) (v:Value) (c:Ch):Prop :=
 ∃bv dv fv av uv,v=.agg #[.string c.name,bv,dv,fv,av,uv]∧BlocksAt w B bv c.blocks∧DiagsAt w B dv c.diags∧TxS w (· < B) fv c.files∧AtS w (· < B) av c.attrs∧TxS w (· < B) uv c.unset
theorem opens_any (x:Bl) (kv:Value×Value) (w:World):Calls Tryz.prog 38 #[.agg (blCells x kv).toArray] w fun e w'=>e=.returned (.bool (opensB x))∧Below w.heap.size w w':=by
 obtain⟨k1,k2⟩:=kv;have e:opensB x=(((x.kind:Int)==1)&&((x.level:Int)==1)):=by
  unfold opensB;rw[Bool.eq_iff_iff];simp;omega
 have HE:=Lib.hid e;clear e;obtain⟨a,ha⟩:∃a,((x.kind:Int)==1)=a:=⟨_,rfl⟩;obtain⟨b,hb⟩:∃b,((x.level:Int)==1)=b:=⟨_,rfl⟩;have HA:=hidH2 ha hb;unfold blCells;generalize (x.kind:Int)=kk at *;generalize (x.level:Int)=ll at *;cases a<;>cases b <;>
 ·go_enter Tryz.func38,Tryz.ntmps38
  go_wp2
  go_ret
  refine⟨?_,(Below.refl _ _).alloc (Nat.le_refl _) _⟩;rw[HE.out,HA.out.1,HA.out.2];rfl
end Go.Proofs.YtkdknllcllhpgaaGreatDoor
namespace Go.Bd
open Go.RowKit Go.Proofs.YtkdknllcllhpgaaGreatDoor
def sameF (was l:List Sc) (f:ByteArray):Bool:=match findS was f with|none=>false|some x=>match findS l f with|none=>false|some y=>decide (x=y)
def sameD (l:List Sc) (d:Dg):Bool:=!decide (d.fault=1) || (findS l d.text).isNone
def sameA (a:List At) (x:At):Bool:=match getA a x.name with|none=>false|some v=>decide (v=x.value)
def sameU (a:List At) (n:ByteArray):Bool:=(getA a n).isNone
def sameM (c:Ch) (was l:List Sc) (a:List At):Bool:=c.files.all (sameF was l)&&(c.diags.all (sameD l)&&(c.attrs.all (sameA a)&&c.unset.all (sameU a)))
theorem all_step {α:Type}{P:α→Bool}{l:List α}{k:Nat}{a:α} (h:l[k]? = some a) (ht:(l.take k).all P=true) (ha:P a=true):(l.take (k+1)).all P=true:=by
 rw[List.take_add_one,h,List.all_append,ht];simp[ha]
theorem all_fail {α:Type}{P:α→Bool}{l:List α}{k:Nat}{a:α} (h:l[k]? = some a) (ha:P a=false):l.all P=false:=by
 rw[Bool.eq_false_iff];intro hA;rw[List.all_eq_true] at hA;have:=hA a (List.mem_of_getElem? h)
 rw[ha] at this;cases this
theorem all_end {α:Type}{P:α→Bool}{l:List α}{n:Nat} (hn:l.length=n) (h:(l.take n).all P=true):l.all P=true:=by
 rwa [List.take_of_length_le (by omega)] at h
end Go.Bd
namespace Go.Proofs.YtkdknllcllhpgaaGreatDoor
open Go.RowKit Go.Bd
theorem same_ch {w:World}{B:Nat}{S1 S2 T:Nat→Prop}{cv sv1 sv2 av:Value}{c:Ch}{was l:List Sc}{attrs:List At} (hc:ChAt w B cv c) (hB:B≤w.heap.size) (hs1:ScS w S1 sv1 was) (hs2:ScS w S2 sv2 l) (hat:AtS w T av attrs) (hS1:∀k,S1 k→k<w.heap.size) (hS2:∀k,S2 k→k<w.heap.size) (hT:∀k,T k→k<w.heap.size)
  (hn1:was.length≤1000000000) (hn2:l.length≤1000000000) (hn3:attrs.length≤1000000000) (haz:∀a∈attrs,a.name.size≤100000∧a.value.size≤100000) (hlen:c.files.length≤1000000000∧c.diags.length≤1000000000∧c.attrs.length≤2000000000∧c.unset.length≤2000000000) :
  Calls Tryz.prog 10 #[cv,sv1,sv2,av] w fun e w'=>e=.returned (.bool (sameM c was l (firstA attrs).attrs))∧Below w.heap.size w w':=by
 obtain⟨bv,dv,fv,av',uv,rfl,_,hdg,hfl,hca,hcu⟩:=hc;obtain⟨Af,cf,hfv,hfc,hff⟩:=hfl;obtain⟨Ad,cd,hdv,hdc⟩:=hdg.form;obtain⟨Aa,ca,hav,hac,haf⟩:=hca;obtain⟨Au,cu,huv,huc,huf⟩:=hcu;subst hfv hdv hav huv;rw[List.length_map] at hac ⊢;have hB0:=(Below.refl w.heap.size w).alloc (Nat.le_refl _) (.cells #[.string c.name,bv,.slice Ad c.diags.length cd,.slice Af c.files.length cf,.slice Aa c.attrs.length ca,.slice Au c.unset.length cu] 27);have hX0:=Holds.new w 27 #[.string c.name,bv,.slice Ad c.diags.length cd,.slice Af c.files.length cf,.slice Aa c.attrs.length ca,.slice Au c.unset.length cu];obtain⟨n1,hn1'⟩:∃n1,c.files.length=n1:=⟨_,rfl⟩;obtain⟨n2,hn2'⟩:∃n2,c.diags.length=n2:=⟨_,rfl⟩;obtain⟨n3,hn3'⟩:∃n3,c.attrs.length=n3:=⟨_,rfl⟩;obtain⟨n4,hn4'⟩:∃n4,c.unset.length=n4:=⟨_,rfl⟩;rw[hn1',hn2',hn3',hn4'] at hB0 hX0;rw[hn1',hn2',hn3',hn4'] at hlen;rw[hn1'] at hfc;rw[hn2'] at hdc hdg;rw[hn3'] at hac;rw[hn4'] at huc;rw[hn1',hn2',hn3',hn4'];obtain⟨W0,hW0⟩:∃W0,w.alloc (.cells #[.string c.name,bv,.slice Ad n2 cd,.slice Af n1 cf,.slice Aa n3 ca,.slice Au n4 cu] 27)=W0:=⟨_,rfl⟩;obtain⟨p,hp⟩:∃p,w.heap.size=p:=⟨_,rfl⟩;rw[hW0] at hB0 hX0;rw[hp] at hX0;have hfind1:=fun W (hW:Below w.heap.size w W) n=>Find_any (TwoS.below hs1 hW) (fun k hk=>Nat.lt_of_lt_of_le (hS1 k hk) hW.size) hn1 n
 have hfind2:=fun W (hW:Below w.heap.size w W) n=>Find_any (TwoS.below hs2 hW) (fun k hk=>Nat.lt_of_lt_of_le (hS2 k hk) hW.size) hn2 n
 have hal:=fun W (hW:Below w.heap.size w W)=>allowed_any (TwoS.below hat hW) (fun k hk=>Nat.lt_of_lt_of_le (hT k hk) hW.size) hn3 haz
 obtain⟨av2,hav2⟩:∃av2,(if checkB attrs then av else .slice none 0 0)=av2:=⟨_,rfl⟩;obtain⟨a2,ha2⟩:∃a2,(firstA attrs).attrs=a2:=⟨_,rfl⟩;have hget:∀W,Below w.heap.size w W→∀n,Calls Tryz.prog 27 #[av2,.string n] W fun e w'=>e=.returned (getV (getA a2 n))∧Below W.heap.size W w':=fun W hW n=>by
  refine Get_any (S:=T) ?_ (fun k hk=>Nat.lt_of_lt_of_le (hT k hk) hW.size) ?_ n
  ·rw[←hav2,←ha2];unfold firstA;dsimp only;split
   ·exact TwoS.below hat hW
   ·exact TwoS.nil _ _
  ·rw[←ha2];unfold firstA;dsimp only;split
   ·exact hn3
   ·exact Nat.zero_le _
 rw[hav2] at hal;have hbx:∀W,Below W0.heap.size W0 W→W.cell? ⟨p,2,none⟩=some (.slice Ad n2 cd)∧W.cell? ⟨p,3,none⟩=some (.slice Af n1 cf)∧W.cell? ⟨p,4,none⟩=some (.slice Aa n3 ca)∧W.cell? ⟨p,5,none⟩=some (.slice Au n4 cu)∧Below w.heap.size w W:=fun W hW=>by
  have h:=hX0.below hW hX0.lt;have a2:=h.cell 2;have a3:=h.cell 3;have a4:=h.cell 4;have a5:=h.cell 5;simp at a2 a3 a4 a5;exact⟨a2,a3,a4,a5,hB0.trans (hW.mono hB0.size)⟩
 have HH:=Lib.hid (And.intro hfind1 (And.intro hfind2 (And.intro hal (And.intro hget (And.intro hbx (And.intro hff (And.intro hdg (And.intro haf (And.intro huf (And.intro hB (And.intro ha2 (And.intro hn1' (And.intro hn2' (And.intro hn3' hn4'))))))))))))));have HW:=hidH2 hW0 hp;obtain⟨_,c3,_,_,_⟩:=hbx W0 (Below.refl _ _);clear hfind1 hfind2 hal hget hbx hff hdg haf huf hB ha2 hn1' hn2' hn3' hn4' hs1 hs2 hat hS1 hS2 hT haz hX0 hB0 hav2
 go_enter Tryz.func10,Tryz.ntmps10
 go_wp2_with fail
 (try rw[HW.out.1])
 (try rw[HW.out.2])
 clear hW0 hp
 go_loopg [30] n1 (fun q i wr=>∃k:Nat,k+q=n1∧i=.int .i64 (k:Int)∧Hid (Below W0.heap.size W0 wr∧(c.files.take k).all (sameF was l)=true))
 case atStart=>exact⟨0,by omega,rfl,Lib.hid ⟨Below.refl _ _,rfl⟩⟩
 case round =>
  obtain⟨k,hk,rfl,HR⟩:=hrel
  by_cases hlt:k<n1
  ·obtain⟨f,hf⟩:∃f,c.files[k]? = some f:=⟨_,List.getElem?_eq_getElem (by have:=HH.out.2.2.2.2.2.2.2.2.2.2.2.1;omega)⟩;obtain⟨b,off,rfl,hbB,q0⟩:=HH.out.2.2.2.2.2.1 k f hf;have hbw:=(HH.out.2.2.2.2.1 wr HR.out.1).2.2.2.2;have r0:=(hbw.cell (p:=⟨b,off+k,none⟩) (Nat.lt_of_lt_of_le hbB HH.out.2.2.2.2.2.2.2.2.2.1)).trans q0;have hF1:=HH.out.1 wr hbw f;have HP:=hidH3 hf hbw hF1;clear hf hbw q0 hbB hF1;cases hx:findS was f with
   | none =>
    have hF1:=HP.out.2.2;rw[hx] at hF1;unfold getV at hF1;have HF:=hidH2 hF1 hx;clear hF1 hx;cases hy:findS l f with
    | none =>
     have HY:=Lib.hid hy;clear hy
     go_wp2_with fail
     refine HF.out.1.mono ?_;rintro e w2 ⟨rfl,hb2⟩;have hbw2:=HP.out.2.1.trans (hb2.mono HP.out.2.1.size);have hF2:=HH.out.2.1 w2 hbw2 f;rw[HY.out] at hF2;unfold getV at hF2;have HF2:=hidH3 hF2 hbw2 hb2;clear hF2 hbw2 hb2
     go_wp2_with fail
     refine HF2.out.1.mono ?_;rintro e w3 ⟨rfl,hb3⟩
     go_wp2_with fail
     go_ret
     have hP:sameF was l f=false:=by unfold sameF;rw[HF.out.2]
     refine⟨ret_bool ?_,HF2.out.2.1.trans (hb3.mono HF2.out.2.1.size)⟩;unfold sameM;rw[all_fail HP.out.1 hP,Bool.false_and]
    | some y =>
     have HY:=Lib.hid hy;clear hy
     go_wp2_with fail
     refine HF.out.1.mono ?_;rintro e w2 ⟨rfl,hb2⟩;have hbw2:=HP.out.2.1.trans (hb2.mono HP.out.2.1.size);have hF2:=HH.out.2.1 w2 hbw2 f;rw[HY.out] at hF2;unfold getV at hF2;have HF2:=hidH3 hF2 hbw2 hb2;clear hF2 hbw2 hb2
     go_wp2_with fail
     refine HF2.out.1.mono ?_;rintro e w3 ⟨rfl,hb3⟩
     go_wp2_with fail
     go_ret
     have hP:sameF was l f=false:=by unfold sameF;rw[HF.out.2]
     refine⟨ret_bool ?_,HF2.out.2.1.trans (hb3.mono HF2.out.2.1.size)⟩;unfold sameM;rw[all_fail HP.out.1 hP,Bool.false_and]
   | some x =>
    have hF1:=HP.out.2.2;rw[hx] at hF1;unfold getV at hF1;have HF:=hidH2 hF1 hx;clear hF1 hx;cases hy:findS l f with
    | none =>
     have HY:=Lib.hid hy;clear hy
     go_wp2_with fail
     refine HF.out.1.mono ?_;rintro e w2 ⟨rfl,hb2⟩;have hbw2:=HP.out.2.1.trans (hb2.mono HP.out.2.1.size);have hF2:=HH.out.2.1 w2 hbw2 f;rw[HY.out] at hF2;unfold getV at hF2;have HF2:=hidH3 hF2 hbw2 hb2;clear hF2 hbw2 hb2
     go_wp2_with fail
     refine HF2.out.1.mono ?_;rintro e w3 ⟨rfl,hb3⟩
     go_wp2_with fail
     go_ret
     have hP:sameF was l f=false:=by unfold sameF;rw[HF.out.2];dsimp only;rw[HY.out]
     refine⟨ret_bool ?_,HF2.out.2.1.trans (hb3.mono HF2.out.2.1.size)⟩;unfold sameM;rw[all_fail HP.out.1 hP,Bool.false_and]
    | some y =>
     have HY:=Lib.hid hy;clear hy
     go_wp2_with fail
     refine HF.out.1.mono ?_;rintro e w2 ⟨rfl,hb2⟩;have hbw2:=HP.out.2.1.trans (hb2.mono HP.out.2.1.size);have hF2:=HH.out.2.1 w2 hbw2 f;rw[HY.out] at hF2;unfold getV at hF2;have HF2:=hidH3 hF2 hbw2 hb2;clear hF2 hbw2 hb2;have hE:=toL_eq x y;obtain⟨d,hd⟩:∃d,decide (x=y)=d:=⟨_,rfl⟩;rw[hd] at hE;have HD:=Lib.hid hd;clear hd;cases d with
     | false =>
      go_wp2_with fail
      refine HF2.out.1.mono ?_;rintro e w3 ⟨rfl,hb3⟩
      go_wp2_with fail
      go_ret
      have hP:sameF was l f=false:=by unfold sameF;rw[HF.out.2];dsimp only;rw[HY.out];exact HD.out
      refine⟨ret_bool ?_,HF2.out.2.1.trans (hb3.mono HF2.out.2.1.size)⟩;unfold sameM;rw[all_fail HP.out.1 hP,Bool.false_and]
     | true =>
      go_wp2_with fail
      refine HF2.out.1.mono ?_;rintro e w3 ⟨rfl,hb3⟩
      go_wp2_with fail
      have hP:sameF was l f=true:=by unfold sameF;rw[HF.out.2];dsimp only;rw[HY.out];exact HD.out
      go_roundg (gk-1)
      case measure=>omega
      case rel=>exact⟨k+1,by omega,by go_num,Lib.hid ⟨HR.out.1.trans ((HF2.out.2.2.trans (hb3.mono HF2.out.2.2.size)).mono HR.out.1.size),all_step HP.out.1 HR.out.2 hP⟩⟩
  ·obtain rfl:k=n1:=by omega
   have h1:=all_end HH.out.2.2.2.2.2.2.2.2.2.2.2.1 HR.out.2;have HA1:=Lib.hid h1;obtain⟨c2,_,_,_,hbw⟩:=HH.out.2.2.2.2.1 wr HR.out.1;obtain⟨wA,hwA⟩:∃x,x=wr:=⟨_,rfl⟩;subst hwA;clear h1 hbw hk hlt
   go_wp2_with fail
   go_loopg [61] n2 (fun q i wr=>∃k:Nat,k+q=n2∧i=.int .i64 (k:Int)∧Hid (Below W0.heap.size W0 wr∧(c.diags.take k).all (sameD l)=true))
   case atStart=>exact⟨0,by omega,rfl,Lib.hid ⟨HR.out.1,rfl⟩⟩
   case round =>
    obtain⟨k2,hk,rfl,HR2⟩:=hrel
    by_cases hlt:k2<n2
    ·obtain⟨dg,hf⟩:∃dg,c.diags[k2]? = some dg:=⟨_,List.getElem?_eq_getElem (by have:=HH.out.2.2.2.2.2.2.2.2.2.2.2.2.1;omega)⟩;obtain⟨b,off,rfl,hbB,q0,q1,q2,q3⟩:=HH.out.2.2.2.2.2.2.1.at hf;have hbw:=(HH.out.2.2.2.2.1 wr HR2.out.1).2.2.2.2;have hbl:=Nat.lt_of_lt_of_le hbB HH.out.2.2.2.2.2.2.2.2.2.1;have r0:=(hbw.cell (p:=⟨b,off+k2*4,none⟩) hbl).trans q0;have r1:=(hbw.cell (p:=⟨b,off+k2*4+1,none⟩) hbl).trans q1;have r2:=(hbw.cell (p:=⟨b,off+k2*4+2,none⟩) hbl).trans q2;have r3:=(hbw.cell (p:=⟨b,off+k2*4+3,none⟩) hbl).trans q3;have hBx:=(Below.refl wr.heap.size wr).alloc (Nat.le_refl _) (.cells #[.string dg.file,.int .i64 dg.line,.int .i64 (dg.fault:Int),.string dg.text] 55);have hF2:=HH.out.2.1 _ (hbw.trans (hBx.mono hbw.size)) dg.text;have HP:=hidH4 hf hbw hBx hF2;clear hf hbw q0 q1 q2 q3 hbB hbl hBx hF2
     by_cases hfa:dg.fault=1
     ·have hfi:((dg.fault:Int)=1):=by omega
      cases hy:findS l dg.text with
      | some y =>
       have hF:=HP.out.2.2.2;have hBy:=HP.out.2.2.1;rw[hfi] at hBy;rw[hfi,hy] at hF;unfold getV at hF;have HF:=hidH4 hF hy hfa hBy;clear hF hy hfa hBy
       go_wp2_with fail
       refine HF.out.1.mono ?_;rintro e w3 ⟨rfl,hb3⟩
       go_wp2_with fail
       go_ret
       have hP:sameD l dg=false:=by unfold sameD;rw[HF.out.2.1,HF.out.2.2.1];rfl
       refine⟨ret_bool ?_,HP.out.2.1.trans ((HF.out.2.2.2.trans (hb3.mono HF.out.2.2.2.size)).mono HP.out.2.1.size)⟩;unfold sameM;rw[HA1.out,Bool.true_and,all_fail HP.out.1 hP,Bool.false_and]
      | none =>
       have hF:=HP.out.2.2.2;have hBy:=HP.out.2.2.1;rw[hfi] at hBy;rw[hfi,hy] at hF;unfold getV at hF;have HF:=hidH3 hF hy hBy;clear hF hy hfa hBy
       go_wp2_with fail
       refine HF.out.1.mono ?_;rintro e w3 ⟨rfl,hb3⟩
       go_wp2_with fail
       have hP:sameD l dg=true:=by unfold sameD;rw[HF.out.2.1];exact Bool.or_true _
       go_roundg (gk-1)
       case measure=>omega
       case rel=>exact⟨k2+1,by omega,by go_num,Lib.hid ⟨HR2.out.1.trans ((HF.out.2.2.trans (hb3.mono HF.out.2.2.size)).mono HR2.out.1.size),all_step HP.out.1 HR2.out.2 hP⟩⟩
     ·have hfi:¬((dg.fault:Int)=1):=by omega
      have hP:sameD l dg=true:=by unfold sameD;rw[decide_eq_false hfa];rfl
      have HF:=Lib.hid hP;clear hP hfa
      go_wp2_with fail
      go_roundg (gk-1)
      case measure=>omega
      case rel=>exact⟨k2+1,by omega,by go_num,Lib.hid ⟨HR2.out.1.trans (HP.out.2.2.1.mono HR2.out.1.size),all_step HP.out.1 HR2.out.2 HF.out⟩⟩
    ·obtain rfl:k2=n2:=by omega
     have h1:=all_end HH.out.2.2.2.2.2.2.2.2.2.2.2.2.1 HR2.out.2;have HA2:=Lib.hid h1;obtain⟨_,_,_,_,hbw⟩:=HH.out.2.2.2.2.1 wr HR2.out.1;have hal:=HH.out.2.2.1 wr hbw;have HAL:=Lib.hid hal;obtain⟨wB,hwB⟩:∃x,x=wr:=⟨_,rfl⟩;subst hwB;clear h1 hbw hk hlt hal c2
     go_wp2_with fail
     refine HAL.out.mono ?_;rintro e wC ⟨rfl,hbC⟩;have hRC:=HR2.out.1.trans (hbC.mono HR2.out.1.size);obtain⟨_,_,c4,_,hbwC⟩:=HH.out.2.2.2.2.1 wC hRC;have HRC:=Lib.hid hRC;clear hRC hbC hbwC
     go_wp2_with fail
     go_loopg [82] n3 (fun q i wr=>∃k:Nat,k+q=n3∧i=.int .i64 (k:Int)∧Hid (Below W0.heap.size W0 wr∧(c.attrs.take k).all (sameA a2)=true))
     case atStart=>exact⟨0,by omega,rfl,Lib.hid ⟨HRC.out,rfl⟩⟩
     case round =>
      obtain⟨k3,hk,rfl,HR3⟩:=hrel
      by_cases hlt:k3<n3
      ·obtain⟨at',hf⟩:∃at',c.attrs[k3]? = some at':=⟨_,List.getElem?_eq_getElem (by have:=HH.out.2.2.2.2.2.2.2.2.2.2.2.2.2.1;omega)⟩;obtain⟨b,off,rfl,hbB,q0,q1⟩:=HH.out.2.2.2.2.2.2.2.1 k3 (atP at') (by rw[List.getElem?_map,hf];rfl);unfold atP at q0 q1;dsimp only at q0 q1;have hbw:=(HH.out.2.2.2.2.1 wr HR3.out.1).2.2.2.2;have hbl:=Nat.lt_of_lt_of_le hbB HH.out.2.2.2.2.2.2.2.2.2.1;have r0:=(hbw.cell (p:=⟨b,off+k3*2,none⟩) hbl).trans q0;have r1:=(hbw.cell (p:=⟨b,off+k3*2+1,none⟩) hbl).trans q1;have hBx:=(Below.refl wr.heap.size wr).alloc (Nat.le_refl _) (.cells #[.string at'.name,.string at'.value] 47);have hXx:=Holds.new wr 47 #[.string at'.name,.string at'.value];have hF2:=HH.out.2.2.2.1 _ (hbw.trans (hBx.mono hbw.size)) at'.name;obtain⟨av3,hav3⟩:∃x,at'.value=x:=⟨_,rfl⟩;rw[hav3] at r1 hBx hF2 hXx;have HP:=hidH6 hf hbw hBx hF2 hav3 hXx;clear hf hbw q0 q1 hbB hbl hBx hF2 hav3 hXx;cases hy:getA a2 at'.name with
       | none =>
        have hF:=HP.out.2.2.2.1;rw[hy] at hF;unfold getV at hF;have HF:=hidH2 hF hy;clear hF hy
        go_wp2_with fail
        refine HF.out.1.mono ?_;rintro e w3 ⟨rfl,hb3⟩
        go_wp2_with fail
        go_ret
        have hP:sameA a2 at'=false:=by unfold sameA;rw[HF.out.2]
        refine⟨ret_bool ?_,HP.out.2.1.trans ((HP.out.2.2.1.trans (hb3.mono HP.out.2.2.1.size)).mono HP.out.2.1.size)⟩;unfold sameM;rw[HH.out.2.2.2.2.2.2.2.2.2.2.1,HA1.out,HA2.out,Bool.true_and,Bool.true_and,all_fail HP.out.1 hP,Bool.false_and]
       | some v =>
        have hF:=HP.out.2.2.2.1;rw[hy] at hF;unfold getV at hF;have HF:=hidH2 hF hy;clear hF hy;have hE:=toL_eq v av3;obtain⟨d,hd⟩:∃d,decide (v=av3)=d:=⟨_,rfl⟩;rw[hd] at hE;have HD:=Lib.hid hd;clear hd;cases d with
        | false =>
         go_wp2_with fail
         refine HF.out.1.mono ?_;rintro e w3 ⟨rfl,hb3⟩;have s1:=(HP.out.2.2.2.2.2.below hb3 (by simp)).cell 1;simp at s1
         go_wp2_with fail
         go_ret
         have hP:sameA a2 at'=false:=by unfold sameA;rw[HF.out.2];dsimp only;rw[HP.out.2.2.2.2.1];exact HD.out
         refine⟨ret_bool ?_,HP.out.2.1.trans ((HP.out.2.2.1.trans (hb3.mono HP.out.2.2.1.size)).mono HP.out.2.1.size)⟩;unfold sameM;rw[HH.out.2.2.2.2.2.2.2.2.2.2.1,HA1.out,HA2.out,Bool.true_and,Bool.true_and,all_fail HP.out.1 hP,Bool.false_and]
        | true =>
         go_wp2_with fail
         refine HF.out.1.mono ?_;rintro e w3 ⟨rfl,hb3⟩;have s1:=(HP.out.2.2.2.2.2.below hb3 (by simp)).cell 1;simp at s1
         go_wp2_with fail
         have hP:sameA a2 at'=true:=by unfold sameA;rw[HF.out.2];dsimp only;rw[HP.out.2.2.2.2.1];exact HD.out
         go_roundg (gk-1)
         case measure=>omega
         case rel=>exact⟨k3+1,by omega,by go_num,Lib.hid ⟨HR3.out.1.trans ((HP.out.2.2.1.trans (hb3.mono HP.out.2.2.1.size)).mono HR3.out.1.size),all_step HP.out.1 HR3.out.2 hP⟩⟩
      ·obtain rfl:k3=n3:=by omega
       have h1:=all_end HH.out.2.2.2.2.2.2.2.2.2.2.2.2.2.1 HR3.out.2;have HA3:=Lib.hid h1;obtain⟨_,_,_,c5,hbw⟩:=HH.out.2.2.2.2.1 wr HR3.out.1;obtain⟨wD,hwD⟩:∃x,x=wr:=⟨_,rfl⟩;subst hwD;clear h1 hbw hk hlt c4
       go_wp2_with fail
       go_loopg [105] n4 (fun q i wr=>∃k:Nat,k+q=n4∧i=.int .i64 (k:Int)∧Hid (Below W0.heap.size W0 wr∧(c.unset.take k).all (sameU a2)=true))
       case atStart=>exact⟨0,by omega,rfl,Lib.hid ⟨HR3.out.1,rfl⟩⟩
       case round =>
        obtain⟨k4,hk,rfl,HR4⟩:=hrel
        by_cases hlt:k4<n4
        ·obtain⟨un,hf⟩:∃un,c.unset[k4]? = some un:=⟨_,List.getElem?_eq_getElem (by have:=HH.out.2.2.2.2.2.2.2.2.2.2.2.2.2.2;omega)⟩;obtain⟨b,off,rfl,hbB,q0⟩:=HH.out.2.2.2.2.2.2.2.2.1 k4 un hf;have hbw:=(HH.out.2.2.2.2.1 wr HR4.out.1).2.2.2.2;have r0:=(hbw.cell (p:=⟨b,off+k4,none⟩) (Nat.lt_of_lt_of_le hbB HH.out.2.2.2.2.2.2.2.2.2.1)).trans q0;have hF2:=HH.out.2.2.2.1 _ hbw un;have HP:=hidH3 hf hbw hF2;clear hf hbw q0 hbB hF2;cases hy:getA a2 un with
         | none =>
          have hF:=HP.out.2.2;rw[hy] at hF;unfold getV at hF;have HF:=hidH2 hF hy;clear hF hy
          go_wp2_with fail
          refine HF.out.1.mono ?_;rintro e w3 ⟨rfl,hb3⟩
          go_wp2_with fail
          have hP:sameU a2 un=true:=by unfold sameU;rw[HF.out.2];rfl
          go_roundg (gk-1)
          case measure=>omega
          case rel=>exact⟨k4+1,by omega,by go_num,Lib.hid ⟨HR4.out.1.trans (hb3.mono HR4.out.1.size),all_step HP.out.1 HR4.out.2 hP⟩⟩
         | some v =>
          have hF:=HP.out.2.2;rw[hy] at hF;unfold getV at hF;have HF:=hidH2 hF hy;clear hF hy
          go_wp2_with fail
          refine HF.out.1.mono ?_;rintro e w3 ⟨rfl,hb3⟩
          go_wp2_with fail
          go_ret
          have hP:sameU a2 un=false:=by unfold sameU;rw[HF.out.2];rfl
          refine⟨ret_bool ?_,HP.out.2.1.trans (hb3.mono HP.out.2.1.size)⟩;unfold sameM;rw[HH.out.2.2.2.2.2.2.2.2.2.2.1,HA1.out,HA2.out,HA3.out,Bool.true_and,Bool.true_and,Bool.true_and,all_fail HP.out.1 hP]
        ·obtain rfl:k4=n4:=by omega
         have h1:=all_end HH.out.2.2.2.2.2.2.2.2.2.2.2.2.2.2 HR4.out.2;have HA4:=Lib.hid h1;clear h1
         go_wp2_with fail
         go_ret
         refine⟨ret_bool ?_,(HH.out.2.2.2.2.1 wr HR4.out.1).2.2.2.2⟩;unfold sameM;rw[HH.out.2.2.2.2.2.2.2.2.2.2.1,HA1.out,HA2.out,HA3.out,HA4.out];rfl
end Go.Proofs.YtkdknllcllhpgaaGreatDoor
namespace Go.Bd
open Go.RowKit
def FlatAt {α:Type} (f:α→List Value) (k:Nat) (w:World) (v:Value) (l:List α):Prop :=
 ∃A c,v=.slice A l.length c∧l.length≤c∧∀(j:Nat) x,l[j]? = some x→∃b off,A=some ⟨b,off,none⟩∧∀(i:Nat) u,(f x)[i]? = some u→w.cell? ⟨b,off+j*k+i,none⟩=some u
def FlatM {α:Type} (f:α→List Value) (k:Nat) (t:TypeId) (mk:List Value) (b:Nat) (w:World) (v:Value) (l:List α):Prop :=
 ∃g cap,v=.slice (some ⟨g,0,none⟩) l.length cap∧w.ownsRow b t k (.slice (some ⟨g,0,none⟩) (l.length+1) cap) (l.length+1) (l.flatMap f++mk)
section
variable {α:Type} {f:α→List Value} {k:Nat} {w w':World} {v:Value} {l:List α}
theorem FlatAt.below (h:FlatAt f k w v l) (hb:Below w.heap.size w w'):FlatAt f k w' v l:=by
 obtain⟨A,c,h1,h2,h3⟩:=h;refine⟨A,c,h1,h2,fun j x hx=>?_⟩;obtain⟨b,off,h4,h5⟩:=h3 j x hx;exact⟨b,off,h4,fun i u hu=>(hb.cell (p:=⟨b,off+j*k+i,none⟩) (World.block_lt_of_cell? w _ (h5 i u hu))).trans (h5 i u hu)⟩
theorem FlatM.below {t:TypeId}{mk:List Value}{b:Nat} (h:FlatM f k t mk b w v l) (hb:Below w.heap.size w w'):FlatM f k t mk b w' v l:=by
 obtain⟨g,cap,h1,h2⟩:=h;exact⟨g,cap,h1,(Chg.below hb (fun _=>False)).owns h2 (fun _ _ h=>h)⟩
theorem fl_cells {b sz n c:Nat}{t:TypeId}{A:Option Addr}{xs:List Value} (h:w.ownsRow b t sz (.slice A n c) n xs){i:Nat}{u:Value} (hu:xs[i]? = some u):∃g,A=some ⟨g,0,none⟩∧w.cell? ⟨g,i,none⟩=some u:=by
 rcases h.2 with ⟨h1,h2⟩|⟨g,cap,cur,h1,_,h3,_⟩
 ·have h4:=h.1;rw[h2,Nat.zero_mul] at h4;rw[List.length_eq_zero_iff.1 h4] at hu;cases hu
 ·injection h1 with h1 _ _
  have h4:=h.cells (g:=g) (by rw[h1];rfl) i u hu;rw[addr_add] at h4;exact⟨g,h1,h4⟩
theorem fl_cap {b sz n c:Nat}{t:TypeId}{A:Option Addr}{xs:List Value} (h:w.ownsRow b t sz (.slice A n c) n xs):n≤c:=by
 rcases h.2 with ⟨h1,h2⟩|⟨g,cap,cur,h1,_,_,h2,_⟩
 ·omega
 ·injection h1 with _ _ h1
  omega
theorem flat_size (f:α→List Value) (k:Nat) (hf:∀a,(f a).length=k):∀l:List α,(l.flatMap f).length=l.length*k
 | []=>by simp
 | a::l=>by rw[List.flatMap_cons,List.length_append,hf,flat_size f k hf l,List.length_cons,Nat.succ_mul,Nat.add_comm]
theorem flat_cell (f:α→List Value) (k:Nat) (hf:∀a,(f a).length=k):∀{l:List α}{j:Nat}{a:α}{i:Nat}{u:Value},l[j]? = some a→(f a)[i]? = some u→(l.flatMap f)[j*k+i]? = some u
 | [],j,a,i,u,h,_=>by simp at h
 | b::l,0,a,i,u,h,hu=>by
  obtain rfl:b=a:=by simpa using h
  rw[List.flatMap_cons,Nat.zero_mul,Nat.zero_add,List.getElem?_append_left (List.getElem?_eq_some_iff.1 hu).1];exact hu
 | b::l,j+1,a,i,u,h,hu=>by
  rw[List.flatMap_cons,List.getElem?_append_right (by rw[hf,Nat.succ_mul];omega),hf,show (j+1)*k+i-k=j*k+i by rw[Nat.succ_mul];omega];exact flat_cell f k hf (by simpa using h) hu
theorem FlatM.at {t:TypeId}{mk:List Value}{b g cap n:Nat} (hf:∀a,(f a).length=k) (h:w.ownsRow b t k (.slice (some ⟨g,0,none⟩) (n+1) cap) (n+1) (l.flatMap f++mk)) (hn:l.length=n):(∀(j:Nat) x,l[j]? = some x→∀(i:Nat) u,(f x)[i]? = some u→w.cell? ⟨g,j*k+i,none⟩=some u)∧∀(i:Nat) u,mk[i]? = some u→w.cell? ⟨g,n*k+i,none⟩=some u:=by
 refine⟨fun j x hx i u hu=>?_,fun i u hu=>?_⟩
 ·have h1:=flat_cell f k hf hx hu;obtain⟨g',e,h2⟩:=fl_cells h (i:=j*k+i) (u:=u) (by rw[List.getElem?_append_left (List.getElem?_eq_some_iff.1 h1).1];exact h1);injection e with e
  injection e with e _ _
  rw[e];exact h2
 ·obtain⟨g',e,h2⟩:=fl_cells h (i:=n*k+i) (u:=u) (by rw[List.getElem?_append_right (by rw[flat_size f k hf,hn];omega),flat_size f k hf,hn,Nat.add_sub_cancel_left];exact hu);injection e with e
  injection e with e _ _
  rw[e];exact h2
theorem FlatM.flat {t:TypeId}{mk:List Value}{b:Nat} (hf:∀a,(f a).length=k) (h:FlatM f k t mk b w v l):FlatAt f k w v l:=by
 obtain⟨g,cap,h1,h2⟩:=h;refine⟨_,cap,h1,by have:=fl_cap h2;omega,fun j x hx=>⟨g,0,rfl,fun i u hu=>?_⟩⟩;rw[Nat.zero_add];exact (FlatM.at hf h2 rfl).1 j x hx i u hu
end
end Go.Bd
namespace Go.Bd
open Go.RowKit Go.Proofs.YtkdknllcllhpgaaGreatDoor
structure Cx where
 name:ByteArray
 blocks:List Bx
 diags:List Dx
 files:List ByteArray
 attrs:List At
 unset:List ByteArray
def sameDx (l:List Sc) (d:Dx):Bool:=!decide (d.fault=1) || (findS l d.text).isNone
def sameX (c:Cx) (was l:List Sc) (a:List At):Bool:=c.files.all (sameF was l)&&(c.diags.all (sameDx l)&&(c.attrs.all (sameA a)&&c.unset.all (sameU a)))
def DiagsX (w:World) (B:Nat) (v:Value) (ds:List Dx):Prop :=
 ∃A c,v=.slice A ds.length c∧ds.length≤c∧(ds≠[]→∃b off,A=some ⟨b,off,none⟩∧b<B∧∀(j:Nat) x,ds[j]? = some x→∀(i:Nat) u,(dxCells x)[i]? = some u→w.cell? ⟨b,off+j*4+i,none⟩=some u)
theorem DiagsX.at {w:World}{B n c:Nat}{A:Option Addr}{ds:List Dx} (h:DiagsX w B (.slice A n c) ds){j:Nat}{x:Dx} (hx:ds[j]? = some x):∃b off,A=some ⟨b,off,none⟩∧b<B ∧
  w.cell? ⟨b,off+j*4,none⟩=some (.string x.file)∧w.cell? ⟨b,off+j*4+1,none⟩=some (.int .i64 x.line)∧w.cell? ⟨b,off+j*4+2,none⟩=some (.int .i64 x.fault)∧w.cell? ⟨b,off+j*4+3,none⟩=some (.string x.text):=by
 obtain⟨A',c',e,hc,hA⟩:=h;injection e with e1 e2 e3
 subst e1;have hj:=(List.getElem?_eq_some_iff.1 hx).1;obtain⟨b,off,h1,h2,h3⟩:=hA (fun e=>by rw[e] at hj;simp at hj);have hc:=h3 j x hx;exact⟨b,off,h1,h2,hc 0 _ rfl,hc 1 _ rfl,hc 2 _ rfl,hc 3 _ rfl⟩
theorem DiagsX.form {w:World}{B:Nat}{v:Value}{ds:List Dx} (h:DiagsX w B v ds):∃A c,v=.slice A ds.length c∧ds.length≤c:=by
 obtain⟨A,c,h1,h2,_⟩:=h;exact⟨A,c,h1,h2⟩
def CxAt (w:World) (B:Nat) (v:Value) (c:Cx):Prop :=
 ∃bv dv fv av uv,v=.agg #[.string c.name,bv,dv,fv,av,uv]∧True∧DiagsX w B dv c.diags∧TxS w (· < B) fv c.files∧AtS w (· < B) av c.attrs∧TxS w (· < B) uv c.unset
theorem FlatAt.two {w:World}{v:Value}{l:List (ByteArray×ByteArray)}{f:ByteArray×ByteArray→List Value} (hf:∀x,f x=[.string x.1,.string x.2]) (h:FlatAt f 2 w v l):TwoS w (· < w.heap.size) v l:=by
 obtain⟨A,c,h1,h2,h3⟩:=h;refine⟨A,c,h1,h2,fun j x hx=>?_⟩;obtain⟨b,off,h4,h5⟩:=h3 j x hx;rw[hf] at h5;exact⟨b,off,h4,World.block_lt_of_cell? w _ (h5 0 _ rfl),h5 0 _ rfl,h5 1 _ rfl⟩
theorem FlatAt.texts {w:World}{v:Value}{l:List ByteArray}{f:ByteArray→List Value} (hf:∀x,f x=[.string x]) (h:FlatAt f 1 w v l):TxS w (· < w.heap.size) v l:=by
 obtain⟨A,c,h1,h2,h3⟩:=h;refine⟨A,c,h1,h2,fun j x hx=>?_⟩;obtain⟨b,off,h4,h5⟩:=h3 j x hx;rw[hf] at h5;have h6:=h5 0 _ rfl;rw[Nat.mul_one,Nat.add_zero] at h6;exact⟨b,off,h4,World.block_lt_of_cell? w _ h6,h6⟩
theorem FlatAt.diags {w:World}{v:Value}{l:List Dx} (h:FlatAt dxCells 4 w v l):DiagsX w w.heap.size v l:=by
 obtain⟨A,c,h1,h2,h3⟩:=h;refine⟨A,c,h1,h2,fun hn=>?_⟩;cases l with
 | nil=>exact absurd rfl hn
 | cons x l =>
  obtain⟨b,off,h4,h5⟩:=h3 0 x rfl;refine⟨b,off,h4,World.block_lt_of_cell? w _ (h5 0 _ rfl),fun j y hy i u hu=>?_⟩;obtain⟨b',off',e,h6⟩:=h3 j y hy;rw[h4] at e;injection e with e
  injection e with e1 e2 _
  rw[e1,e2];exact h6 i u hu
end Go.Bd
namespace Go.Proofs.YtkdknllcllhpgaaGreatDoor
open Go.RowKit Go.Bd
theorem same_cx {w:World}{B:Nat}{S1 S2 T:Nat→Prop}{cv sv1 sv2 av:Value}{c:Cx}{was l:List Sc}{attrs:List At} (hc:CxAt w B cv c) (hB:B≤w.heap.size) (hs1:ScS w S1 sv1 was) (hs2:ScS w S2 sv2 l) (hat:AtS w T av attrs) (hS1:∀k,S1 k→k<w.heap.size) (hS2:∀k,S2 k→k<w.heap.size) (hT:∀k,T k→k<w.heap.size)
  (hn1:was.length≤1000000000) (hn2:l.length≤1000000000) (hn3:attrs.length≤1000000000) (haz:∀a∈attrs,a.name.size≤100000∧a.value.size≤100000) (hlen:c.files.length≤1000000000∧c.diags.length≤1000000000∧c.attrs.length≤2000000000∧c.unset.length≤2000000000) :
  Calls Tryz.prog 10 #[cv,sv1,sv2,av] w fun e w'=>e=.returned (.bool (sameX c was l (firstA attrs).attrs))∧Below w.heap.size w w':=by
 obtain⟨bv,dv,fv,av',uv,rfl,_,hdg,hfl,hca,hcu⟩:=hc;obtain⟨Af,cf,hfv,hfc,hff⟩:=hfl;obtain⟨Ad,cd,hdv,hdc⟩:=hdg.form;obtain⟨Aa,ca,hav,hac,haf⟩:=hca;obtain⟨Au,cu,huv,huc,huf⟩:=hcu;subst hfv hdv hav huv;rw[List.length_map] at hac ⊢;have hB0:=(Below.refl w.heap.size w).alloc (Nat.le_refl _) (.cells #[.string c.name,bv,.slice Ad c.diags.length cd,.slice Af c.files.length cf,.slice Aa c.attrs.length ca,.slice Au c.unset.length cu] 27);have hX0:=Holds.new w 27 #[.string c.name,bv,.slice Ad c.diags.length cd,.slice Af c.files.length cf,.slice Aa c.attrs.length ca,.slice Au c.unset.length cu];obtain⟨n1,hn1'⟩:∃n1,c.files.length=n1:=⟨_,rfl⟩;obtain⟨n2,hn2'⟩:∃n2,c.diags.length=n2:=⟨_,rfl⟩;obtain⟨n3,hn3'⟩:∃n3,c.attrs.length=n3:=⟨_,rfl⟩;obtain⟨n4,hn4'⟩:∃n4,c.unset.length=n4:=⟨_,rfl⟩;rw[hn1',hn2',hn3',hn4'] at hB0 hX0;rw[hn1',hn2',hn3',hn4'] at hlen;rw[hn1'] at hfc;rw[hn2'] at hdc hdg;rw[hn3'] at hac;rw[hn4'] at huc;rw[hn1',hn2',hn3',hn4'];obtain⟨W0,hW0⟩:∃W0,w.alloc (.cells #[.string c.name,bv,.slice Ad n2 cd,.slice Af n1 cf,.slice Aa n3 ca,.slice Au n4 cu] 27)=W0:=⟨_,rfl⟩;obtain⟨p,hp⟩:∃p,w.heap.size=p:=⟨_,rfl⟩;rw[hW0] at hB0 hX0;rw[hp] at hX0;have hfind1:=fun W (hW:Below w.heap.size w W) n=>Find_any (TwoS.below hs1 hW) (fun k hk=>Nat.lt_of_lt_of_le (hS1 k hk) hW.size) hn1 n
 have hfind2:=fun W (hW:Below w.heap.size w W) n=>Find_any (TwoS.below hs2 hW) (fun k hk=>Nat.lt_of_lt_of_le (hS2 k hk) hW.size) hn2 n
 have hal:=fun W (hW:Below w.heap.size w W)=>allowed_any (TwoS.below hat hW) (fun k hk=>Nat.lt_of_lt_of_le (hT k hk) hW.size) hn3 haz
 obtain⟨av2,hav2⟩:∃av2,(if checkB attrs then av else .slice none 0 0)=av2:=⟨_,rfl⟩;obtain⟨a2,ha2⟩:∃a2,(firstA attrs).attrs=a2:=⟨_,rfl⟩;have hget:∀W,Below w.heap.size w W→∀n,Calls Tryz.prog 27 #[av2,.string n] W fun e w'=>e=.returned (getV (getA a2 n))∧Below W.heap.size W w':=fun W hW n=>by
  refine Get_any (S:=T) ?_ (fun k hk=>Nat.lt_of_lt_of_le (hT k hk) hW.size) ?_ n
  ·rw[←hav2,←ha2];unfold firstA;dsimp only;split
   ·exact TwoS.below hat hW
   ·exact TwoS.nil _ _
  ·rw[←ha2];unfold firstA;dsimp only;split
   ·exact hn3
   ·exact Nat.zero_le _
 rw[hav2] at hal;have hbx:∀W,Below W0.heap.size W0 W→W.cell? ⟨p,2,none⟩=some (.slice Ad n2 cd)∧W.cell? ⟨p,3,none⟩=some (.slice Af n1 cf)∧W.cell? ⟨p,4,none⟩=some (.slice Aa n3 ca)∧W.cell? ⟨p,5,none⟩=some (.slice Au n4 cu)∧Below w.heap.size w W:=fun W hW=>by
  have h:=hX0.below hW hX0.lt;have a2:=h.cell 2;have a3:=h.cell 3;have a4:=h.cell 4;have a5:=h.cell 5;simp at a2 a3 a4 a5;exact⟨a2,a3,a4,a5,hB0.trans (hW.mono hB0.size)⟩
 have HH:=Lib.hid (And.intro hfind1 (And.intro hfind2 (And.intro hal (And.intro hget (And.intro hbx (And.intro hff (And.intro hdg (And.intro haf (And.intro huf (And.intro hB (And.intro ha2 (And.intro hn1' (And.intro hn2' (And.intro hn3' hn4'))))))))))))));have HW:=hidH2 hW0 hp;obtain⟨_,c3,_,_,_⟩:=hbx W0 (Below.refl _ _);clear hfind1 hfind2 hal hget hbx hff hdg haf huf hB ha2 hn1' hn2' hn3' hn4' hs1 hs2 hat hS1 hS2 hT haz hX0 hB0 hav2
 go_enter Tryz.func10,Tryz.ntmps10
 go_wp2_with fail
 (try rw[HW.out.1])
 (try rw[HW.out.2])
 clear hW0 hp
 go_loopg [30] n1 (fun q i wr=>∃k:Nat,k+q=n1∧i=.int .i64 (k:Int)∧Hid (Below W0.heap.size W0 wr∧(c.files.take k).all (sameF was l)=true))
 case atStart=>exact⟨0,by omega,rfl,Lib.hid ⟨Below.refl _ _,rfl⟩⟩
 case round =>
  obtain⟨k,hk,rfl,HR⟩:=hrel
  by_cases hlt:k<n1
  ·obtain⟨f,hf⟩:∃f,c.files[k]? = some f:=⟨_,List.getElem?_eq_getElem (by have:=HH.out.2.2.2.2.2.2.2.2.2.2.2.1;omega)⟩;obtain⟨b,off,rfl,hbB,q0⟩:=HH.out.2.2.2.2.2.1 k f hf;have hbw:=(HH.out.2.2.2.2.1 wr HR.out.1).2.2.2.2;have r0:=(hbw.cell (p:=⟨b,off+k,none⟩) (Nat.lt_of_lt_of_le hbB HH.out.2.2.2.2.2.2.2.2.2.1)).trans q0;have hF1:=HH.out.1 wr hbw f;have HP:=hidH3 hf hbw hF1;clear hf hbw q0 hbB hF1;cases hx:findS was f with
   | none =>
    have hF1:=HP.out.2.2;rw[hx] at hF1;unfold getV at hF1;have HF:=hidH2 hF1 hx;clear hF1 hx;cases hy:findS l f with
    | none =>
     have HY:=Lib.hid hy;clear hy
     go_wp2_with fail
     refine HF.out.1.mono ?_;rintro e w2 ⟨rfl,hb2⟩;have hbw2:=HP.out.2.1.trans (hb2.mono HP.out.2.1.size);have hF2:=HH.out.2.1 w2 hbw2 f;rw[HY.out] at hF2;unfold getV at hF2;have HF2:=hidH3 hF2 hbw2 hb2;clear hF2 hbw2 hb2
     go_wp2_with fail
     refine HF2.out.1.mono ?_;rintro e w3 ⟨rfl,hb3⟩
     go_wp2_with fail
     go_ret
     have hP:sameF was l f=false:=by unfold sameF;rw[HF.out.2]
     refine⟨ret_bool ?_,HF2.out.2.1.trans (hb3.mono HF2.out.2.1.size)⟩;unfold sameX;rw[all_fail HP.out.1 hP,Bool.false_and]
    | some y =>
     have HY:=Lib.hid hy;clear hy
     go_wp2_with fail
     refine HF.out.1.mono ?_;rintro e w2 ⟨rfl,hb2⟩;have hbw2:=HP.out.2.1.trans (hb2.mono HP.out.2.1.size);have hF2:=HH.out.2.1 w2 hbw2 f;rw[HY.out] at hF2;unfold getV at hF2;have HF2:=hidH3 hF2 hbw2 hb2;clear hF2 hbw2 hb2
     go_wp2_with fail
     refine HF2.out.1.mono ?_;rintro e w3 ⟨rfl,hb3⟩
     go_wp2_with fail
     go_ret
     have hP:sameF was l f=false:=by unfold sameF;rw[HF.out.2]
     refine⟨ret_bool ?_,HF2.out.2.1.trans (hb3.mono HF2.out.2.1.size)⟩;unfold sameX;rw[all_fail HP.out.1 hP,Bool.false_and]
   | some x =>
    have hF1:=HP.out.2.2;rw[hx] at hF1;unfold getV at hF1;have HF:=hidH2 hF1 hx;clear hF1 hx;cases hy:findS l f with
    | none =>
     have HY:=Lib.hid hy;clear hy
     go_wp2_with fail
     refine HF.out.1.mono ?_;rintro e w2 ⟨rfl,hb2⟩;have hbw2:=HP.out.2.1.trans (hb2.mono HP.out.2.1.size);have hF2:=HH.out.2.1 w2 hbw2 f;rw[HY.out] at hF2;unfold getV at hF2;have HF2:=hidH3 hF2 hbw2 hb2;clear hF2 hbw2 hb2
     go_wp2_with fail
     refine HF2.out.1.mono ?_;rintro e w3 ⟨rfl,hb3⟩
     go_wp2_with fail
     go_ret
     have hP:sameF was l f=false:=by unfold sameF;rw[HF.out.2];dsimp only;rw[HY.out]
     refine⟨ret_bool ?_,HF2.out.2.1.trans (hb3.mono HF2.out.2.1.size)⟩;unfold sameX;rw[all_fail HP.out.1 hP,Bool.false_and]
    | some y =>
     have HY:=Lib.hid hy;clear hy
     go_wp2_with fail
     refine HF.out.1.mono ?_;rintro e w2 ⟨rfl,hb2⟩;have hbw2:=HP.out.2.1.trans (hb2.mono HP.out.2.1.size);have hF2:=HH.out.2.1 w2 hbw2 f;rw[HY.out] at hF2;unfold getV at hF2;have HF2:=hidH3 hF2 hbw2 hb2;clear hF2 hbw2 hb2;have hE:=toL_eq x y;obtain⟨d,hd⟩:∃d,decide (x=y)=d:=⟨_,rfl⟩;rw[hd] at hE;have HD:=Lib.hid hd;clear hd;cases d with
     | false =>
      go_wp2_with fail
      refine HF2.out.1.mono ?_;rintro e w3 ⟨rfl,hb3⟩
      go_wp2_with fail
      go_ret
      have hP:sameF was l f=false:=by unfold sameF;rw[HF.out.2];dsimp only;rw[HY.out];exact HD.out
      refine⟨ret_bool ?_,HF2.out.2.1.trans (hb3.mono HF2.out.2.1.size)⟩;unfold sameX;rw[all_fail HP.out.1 hP,Bool.false_and]
     | true =>
      go_wp2_with fail
      refine HF2.out.1.mono ?_;rintro e w3 ⟨rfl,hb3⟩
      go_wp2_with fail
      have hP:sameF was l f=true:=by unfold sameF;rw[HF.out.2];dsimp only;rw[HY.out];exact HD.out
      go_roundg (gk-1)
      case measure=>omega
      case rel=>exact⟨k+1,by omega,by go_num,Lib.hid ⟨HR.out.1.trans ((HF2.out.2.2.trans (hb3.mono HF2.out.2.2.size)).mono HR.out.1.size),all_step HP.out.1 HR.out.2 hP⟩⟩
  ·obtain rfl:k=n1:=by omega
   have h1:=all_end HH.out.2.2.2.2.2.2.2.2.2.2.2.1 HR.out.2;have HA1:=Lib.hid h1;obtain⟨c2,_,_,_,hbw⟩:=HH.out.2.2.2.2.1 wr HR.out.1;obtain⟨wA,hwA⟩:∃x,x=wr:=⟨_,rfl⟩;subst hwA;clear h1 hbw hk hlt
   go_wp2_with fail
   go_loopg [61] n2 (fun q i wr=>∃k:Nat,k+q=n2∧i=.int .i64 (k:Int)∧Hid (Below W0.heap.size W0 wr∧(c.diags.take k).all (sameDx l)=true))
   case atStart=>exact⟨0,by omega,rfl,Lib.hid ⟨HR.out.1,rfl⟩⟩
   case round =>
    obtain⟨k2,hk,rfl,HR2⟩:=hrel
    by_cases hlt:k2<n2
    ·obtain⟨dg,hf⟩:∃dg,c.diags[k2]? = some dg:=⟨_,List.getElem?_eq_getElem (by have:=HH.out.2.2.2.2.2.2.2.2.2.2.2.2.1;omega)⟩;obtain⟨b,off,rfl,hbB,q0,q1,q2,q3⟩:=HH.out.2.2.2.2.2.2.1.at hf;have hbw:=(HH.out.2.2.2.2.1 wr HR2.out.1).2.2.2.2;have hbl:=Nat.lt_of_lt_of_le hbB HH.out.2.2.2.2.2.2.2.2.2.1;have r0:=(hbw.cell (p:=⟨b,off+k2*4,none⟩) hbl).trans q0;have r1:=(hbw.cell (p:=⟨b,off+k2*4+1,none⟩) hbl).trans q1;have r2:=(hbw.cell (p:=⟨b,off+k2*4+2,none⟩) hbl).trans q2;have r3:=(hbw.cell (p:=⟨b,off+k2*4+3,none⟩) hbl).trans q3;have hBx:=(Below.refl wr.heap.size wr).alloc (Nat.le_refl _) (.cells #[.string dg.file,.int .i64 dg.line,.int .i64 dg.fault,.string dg.text] 55);have hF2:=HH.out.2.1 _ (hbw.trans (hBx.mono hbw.size)) dg.text;have HP:=hidH4 hf hbw hBx hF2;clear hf hbw q0 q1 q2 q3 hbB hbl hBx hF2
     by_cases hfa:dg.fault=1
     ·have hfi:(dg.fault=1):=by omega
      cases hy:findS l dg.text with
      | some y =>
       have hF:=HP.out.2.2.2;have hBy:=HP.out.2.2.1;rw[hfi] at hBy;rw[hfi,hy] at hF;unfold getV at hF;have HF:=hidH4 hF hy hfa hBy;clear hF hy hfa hBy
       go_wp2_with fail
       refine HF.out.1.mono ?_;rintro e w3 ⟨rfl,hb3⟩
       go_wp2_with fail
       go_ret
       have hP:sameDx l dg=false:=by unfold sameDx;rw[HF.out.2.1,HF.out.2.2.1];rfl
       refine⟨ret_bool ?_,HP.out.2.1.trans ((HF.out.2.2.2.trans (hb3.mono HF.out.2.2.2.size)).mono HP.out.2.1.size)⟩;unfold sameX;rw[HA1.out,Bool.true_and,all_fail HP.out.1 hP,Bool.false_and]
      | none =>
       have hF:=HP.out.2.2.2;have hBy:=HP.out.2.2.1;rw[hfi] at hBy;rw[hfi,hy] at hF;unfold getV at hF;have HF:=hidH3 hF hy hBy;clear hF hy hfa hBy
       go_wp2_with fail
       refine HF.out.1.mono ?_;rintro e w3 ⟨rfl,hb3⟩
       go_wp2_with fail
       have hP:sameDx l dg=true:=by unfold sameDx;rw[HF.out.2.1];exact Bool.or_true _
       go_roundg (gk-1)
       case measure=>omega
       case rel=>exact⟨k2+1,by omega,by go_num,Lib.hid ⟨HR2.out.1.trans ((HF.out.2.2.trans (hb3.mono HF.out.2.2.size)).mono HR2.out.1.size),all_step HP.out.1 HR2.out.2 hP⟩⟩
     ·have hfi:¬(dg.fault=1):=by omega
      have hP:sameDx l dg=true:=by unfold sameDx;rw[decide_eq_false hfa];rfl
      have HF:=Lib.hid hP;clear hP hfa
      go_wp2_with fail
      go_roundg (gk-1)
      case measure=>omega
      case rel=>exact⟨k2+1,by omega,by go_num,Lib.hid ⟨HR2.out.1.trans (HP.out.2.2.1.mono HR2.out.1.size),all_step HP.out.1 HR2.out.2 HF.out⟩⟩
    ·obtain rfl:k2=n2:=by omega
     have h1:=all_end HH.out.2.2.2.2.2.2.2.2.2.2.2.2.1 HR2.out.2;have HA2:=Lib.hid h1;obtain⟨_,_,_,_,hbw⟩:=HH.out.2.2.2.2.1 wr HR2.out.1;have hal:=HH.out.2.2.1 wr hbw;have HAL:=Lib.hid hal;obtain⟨wB,hwB⟩:∃x,x=wr:=⟨_,rfl⟩;subst hwB;clear h1 hbw hk hlt hal c2
     go_wp2_with fail
     refine HAL.out.mono ?_;rintro e wC ⟨rfl,hbC⟩;have hRC:=HR2.out.1.trans (hbC.mono HR2.out.1.size);obtain⟨_,_,c4,_,hbwC⟩:=HH.out.2.2.2.2.1 wC hRC;have HRC:=Lib.hid hRC;clear hRC hbC hbwC
     go_wp2_with fail
     go_loopg [82] n3 (fun q i wr=>∃k:Nat,k+q=n3∧i=.int .i64 (k:Int)∧Hid (Below W0.heap.size W0 wr∧(c.attrs.take k).all (sameA a2)=true))
     case atStart=>exact⟨0,by omega,rfl,Lib.hid ⟨HRC.out,rfl⟩⟩
     case round =>
      obtain⟨k3,hk,rfl,HR3⟩:=hrel
      by_cases hlt:k3<n3
      ·obtain⟨at',hf⟩:∃at',c.attrs[k3]? = some at':=⟨_,List.getElem?_eq_getElem (by have:=HH.out.2.2.2.2.2.2.2.2.2.2.2.2.2.1;omega)⟩;obtain⟨b,off,rfl,hbB,q0,q1⟩:=HH.out.2.2.2.2.2.2.2.1 k3 (atP at') (by rw[List.getElem?_map,hf];rfl);unfold atP at q0 q1;dsimp only at q0 q1;have hbw:=(HH.out.2.2.2.2.1 wr HR3.out.1).2.2.2.2;have hbl:=Nat.lt_of_lt_of_le hbB HH.out.2.2.2.2.2.2.2.2.2.1;have r0:=(hbw.cell (p:=⟨b,off+k3*2,none⟩) hbl).trans q0;have r1:=(hbw.cell (p:=⟨b,off+k3*2+1,none⟩) hbl).trans q1;have hBx:=(Below.refl wr.heap.size wr).alloc (Nat.le_refl _) (.cells #[.string at'.name,.string at'.value] 47);have hXx:=Holds.new wr 47 #[.string at'.name,.string at'.value];have hF2:=HH.out.2.2.2.1 _ (hbw.trans (hBx.mono hbw.size)) at'.name;obtain⟨av3,hav3⟩:∃x,at'.value=x:=⟨_,rfl⟩;rw[hav3] at r1 hBx hF2 hXx;have HP:=hidH6 hf hbw hBx hF2 hav3 hXx;clear hf hbw q0 q1 hbB hbl hBx hF2 hav3 hXx;cases hy:getA a2 at'.name with
       | none =>
        have hF:=HP.out.2.2.2.1;rw[hy] at hF;unfold getV at hF;have HF:=hidH2 hF hy;clear hF hy
        go_wp2_with fail
        refine HF.out.1.mono ?_;rintro e w3 ⟨rfl,hb3⟩
        go_wp2_with fail
        go_ret
        have hP:sameA a2 at'=false:=by unfold sameA;rw[HF.out.2]
        refine⟨ret_bool ?_,HP.out.2.1.trans ((HP.out.2.2.1.trans (hb3.mono HP.out.2.2.1.size)).mono HP.out.2.1.size)⟩;unfold sameX;rw[HH.out.2.2.2.2.2.2.2.2.2.2.1,HA1.out,HA2.out,Bool.true_and,Bool.true_and,all_fail HP.out.1 hP,Bool.false_and]
       | some v =>
        have hF:=HP.out.2.2.2.1;rw[hy] at hF;unfold getV at hF;have HF:=hidH2 hF hy;clear hF hy;have hE:=toL_eq v av3;obtain⟨d,hd⟩:∃d,decide (v=av3)=d:=⟨_,rfl⟩;rw[hd] at hE;have HD:=Lib.hid hd;clear hd;cases d with
        | false =>
         go_wp2_with fail
         refine HF.out.1.mono ?_;rintro e w3 ⟨rfl,hb3⟩;have s1:=(HP.out.2.2.2.2.2.below hb3 (by simp)).cell 1;simp at s1
         go_wp2_with fail
         go_ret
         have hP:sameA a2 at'=false:=by unfold sameA;rw[HF.out.2];dsimp only;rw[HP.out.2.2.2.2.1];exact HD.out
         refine⟨ret_bool ?_,HP.out.2.1.trans ((HP.out.2.2.1.trans (hb3.mono HP.out.2.2.1.size)).mono HP.out.2.1.size)⟩;unfold sameX;rw[HH.out.2.2.2.2.2.2.2.2.2.2.1,HA1.out,HA2.out,Bool.true_and,Bool.true_and,all_fail HP.out.1 hP,Bool.false_and]
        | true =>
         go_wp2_with fail
         refine HF.out.1.mono ?_;rintro e w3 ⟨rfl,hb3⟩;have s1:=(HP.out.2.2.2.2.2.below hb3 (by simp)).cell 1;simp at s1
         go_wp2_with fail
         have hP:sameA a2 at'=true:=by unfold sameA;rw[HF.out.2];dsimp only;rw[HP.out.2.2.2.2.1];exact HD.out
         go_roundg (gk-1)
         case measure=>omega
         case rel=>exact⟨k3+1,by omega,by go_num,Lib.hid ⟨HR3.out.1.trans ((HP.out.2.2.1.trans (hb3.mono HP.out.2.2.1.size)).mono HR3.out.1.size),all_step HP.out.1 HR3.out.2 hP⟩⟩
      ·obtain rfl:k3=n3:=by omega
       have h1:=all_end HH.out.2.2.2.2.2.2.2.2.2.2.2.2.2.1 HR3.out.2;have HA3:=Lib.hid h1;obtain⟨_,_,_,c5,hbw⟩:=HH.out.2.2.2.2.1 wr HR3.out.1;obtain⟨wD,hwD⟩:∃x,x=wr:=⟨_,rfl⟩;subst hwD;clear h1 hbw hk hlt c4
       go_wp2_with fail
       go_loopg [105] n4 (fun q i wr=>∃k:Nat,k+q=n4∧i=.int .i64 (k:Int)∧Hid (Below W0.heap.size W0 wr∧(c.unset.take k).all (sameU a2)=true))
       case atStart=>exact⟨0,by omega,rfl,Lib.hid ⟨HR3.out.1,rfl⟩⟩
       case round =>
        obtain⟨k4,hk,rfl,HR4⟩:=hrel
        by_cases hlt:k4<n4
        ·obtain⟨un,hf⟩:∃un,c.unset[k4]? = some un:=⟨_,List.getElem?_eq_getElem (by have:=HH.out.2.2.2.2.2.2.2.2.2.2.2.2.2.2;omega)⟩;obtain⟨b,off,rfl,hbB,q0⟩:=HH.out.2.2.2.2.2.2.2.2.1 k4 un hf;have hbw:=(HH.out.2.2.2.2.1 wr HR4.out.1).2.2.2.2;have r0:=(hbw.cell (p:=⟨b,off+k4,none⟩) (Nat.lt_of_lt_of_le hbB HH.out.2.2.2.2.2.2.2.2.2.1)).trans q0;have hF2:=HH.out.2.2.2.1 _ hbw un;have HP:=hidH3 hf hbw hF2;clear hf hbw q0 hbB hF2;cases hy:getA a2 un with
         | none =>
          have hF:=HP.out.2.2;rw[hy] at hF;unfold getV at hF;have HF:=hidH2 hF hy;clear hF hy
          go_wp2_with fail
          refine HF.out.1.mono ?_;rintro e w3 ⟨rfl,hb3⟩
          go_wp2_with fail
          have hP:sameU a2 un=true:=by unfold sameU;rw[HF.out.2];rfl
          go_roundg (gk-1)
          case measure=>omega
          case rel=>exact⟨k4+1,by omega,by go_num,Lib.hid ⟨HR4.out.1.trans (hb3.mono HR4.out.1.size),all_step HP.out.1 HR4.out.2 hP⟩⟩
         | some v =>
          have hF:=HP.out.2.2;rw[hy] at hF;unfold getV at hF;have HF:=hidH2 hF hy;clear hF hy
          go_wp2_with fail
          refine HF.out.1.mono ?_;rintro e w3 ⟨rfl,hb3⟩
          go_wp2_with fail
          go_ret
          have hP:sameU a2 un=false:=by unfold sameU;rw[HF.out.2];rfl
          refine⟨ret_bool ?_,HP.out.2.1.trans (hb3.mono HP.out.2.1.size)⟩;unfold sameX;rw[HH.out.2.2.2.2.2.2.2.2.2.2.1,HA1.out,HA2.out,HA3.out,Bool.true_and,Bool.true_and,Bool.true_and,all_fail HP.out.1 hP]
        ·obtain rfl:k4=n4:=by omega
         have h1:=all_end HH.out.2.2.2.2.2.2.2.2.2.2.2.2.2.2 HR4.out.2;have HA4:=Lib.hid h1;clear h1
         go_wp2_with fail
         go_ret
         refine⟨ret_bool ?_,(HH.out.2.2.2.2.1 wr HR4.out.1).2.2.2.2⟩;unfold sameX;rw[HH.out.2.2.2.2.2.2.2.2.2.2.1,HA1.out,HA2.out,HA3.out,HA4.out];rfl
end Go.Proofs.YtkdknllcllhpgaaGreatDoor
namespace Go.Bd
open Go.RowKit
theorem rowCells_at:∀{l:List Sp}{kvs:List Value}{j:Nat}{x:Sp}{kv:Value} (i:Nat),i<5→l[j]? = some x→kvs[j]? = some kv→(rowCells l kvs)[j*5+i]? = (spCells x kv)[i]?
 | [],_,_,_,_,_,_,h,_=>by simp at h
 | _::_,[],_,_,_,_,_,_,h=>by simp at h
 | y::l,kw::kvs,0,x,kv,i,hi,h1,h2=>by
  simp only[List.getElem?_cons_zero,Option.some.injEq] at h1 h2;subst h1;subst h2;rw[rowCells,Nat.zero_mul,Nat.zero_add,List.getElem?_append_left (by simpa [spCells] using hi)]
 | y::l,kw::kvs,j+1,x,kv,i,hi,h1,h2=>by
  rw[rowCells,List.getElem?_append_right (by simp[spCells];omega)];rw[show (j+1)*5+i-(spCells y kw).length=j*5+i by simp[spCells];omega];exact rowCells_at i hi (by simpa using h1) (by simpa using h2)
theorem forest_lit {w:World}{F:Nat→Prop}{g:Nat}{t:TypeId}{l:List Sp}{kvs:List Value} (h:Holds w g t (rowCells l kvs).toArray) (hkl:kvs.length=l.length) (hg:F g) (hk:∀(j:Nat) x kv,l[j]? = some x→kvs[j]? = some kv→Forest w F kv x.kids) :
  Forest w F (.slice (some ⟨g,0,none⟩) l.length l.length) l:=by
 refine .mk _ _ l kvs hkl (Nat.le_refl _) (fun _=>⟨g,0,rfl,hg,fun j x kv h1 h2 i u hu=>?_⟩) hk;have hi:i<5:=by have:=(List.getElem?_eq_some_iff.1 hu).1;simpa [spCells] using this
 rw[Nat.zero_add,h.cell];rw[List.getElem?_toArray,rowCells_at i hi h1 h2];exact hu
theorem forest_one {w:World}{F:Nat→Prop}{g:Nat}{t:TypeId}{x:Sp}{kv:Value} (h:Holds w g t (spCells x kv).toArray) (hg:F g) (hk:Forest w F kv x.kids):Forest w F (.slice (some ⟨g,0,none⟩) 1 1) [x] :=
 forest_lit (l:=[x]) (kvs:=[kv]) (by simpa [rowCells] using h) rfl hg (fun j y kw h1 h2=>by
  match j with
  | 0=>simp at h1 h2;subst h1;subst h2;exact hk
  | j+1=>simp at h1)
theorem forest_txt {w:World}{F:Nat→Prop}{g:Nat}{t:TypeId}{s:Bs} (h:Holds w g t #[.int .u8 0,.string ⟨s.toArray⟩,.string ⟨#[]⟩,.string ⟨#[]⟩,.slice none 0 0]) (hg:F g):Forest w F (.slice (some ⟨g,0,none⟩) 1 1) [txt s] :=
 forest_one (x:=txt s) (kv:=.slice none 0 0) h hg (Forest.nil _ _)
end Go.Bd
namespace Go.Proofs.YtkdknllcllhpgaaGreatDoor
open Go.RowKit Go.Bd
theorem span_size:(Tryz.prog.info? 129).map (·.size)=some 5:=by kernel_rfl
theorem cellAlloc {w:World}{a:Addr}{v:Value} (o:Obj) (h:w.cell? a=some v):(w.alloc o).cell? a=some v :=
 (World.cell?_of_block (Below.heap_alloc w o a.block (World.block_lt_of_cell? w _ h))).trans h
theorem holdsUnder {w w':World}{g:Nat}{t:TypeId}{cs:Array Value} (h:Holds w g t cs) (hb:Below w.heap.size w w'):Holds w' g t cs:=(hb.block g h.lt).trans h
theorem madeCells_size (z:Array Value) (n:Nat):(madeCells z n).size=n:=by simp[madeCells]
theorem results_cell1 {fn:Func}{p:Tmp}{ty:TypeId} (h:fn.results=#[.cell p ty]) (tmps:Array Value) (P:Program) (w:World) :
  (results fn tmps).run P w=((asAddr (tmps.getD p undef)).run P w).andThen fun a w₁=>(loadVar ty a).run P w₁:=by
 simp only[results,h];simp[Sem.run_bind,Result.andThen]
theorem results_row {P:Program}{fn:Func}{p:Tmp}{ty:TypeId} (h:fn.results=#[.cell p ty]) (tmps:Array Value) (w:World) (g:Nat) (t:TypeId) (cs:Array Value) (fr:Nat×Nat) (d:TypeDesc)
  (hp:tmps.getD p undef=.pointer (some ⟨g,0,none⟩)) (hg:w.heap[g]? = some (.cells cs t fr))
  (hu:P.underlying ty=some d) (hd:(match d with | .struct _ | .array _ _=>true|_=>false)=true) (hi:(P.info? ty).map (·.size)=some cs.size) :
  (results fn tmps).run P w=.ok (.agg cs) w:=by
 rw[results_cell1 h,hp];simp[asAddr,run_loadVar_row w g t ty cs fr d hg hu hd hi,Result.andThen]
end Go.Proofs.YtkdknllcllhpgaaGreatDoor
