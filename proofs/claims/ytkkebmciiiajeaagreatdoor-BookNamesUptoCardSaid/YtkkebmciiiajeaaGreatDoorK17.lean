/- part 17 -/
import Derived.Test.YtkkebmciiiajeaaGreatDoorK0
import Derived.Test.YtkkebmciiiajeaaGreatDoorK14
import Derived.Test.YtkkebmciiiajeaaGreatDoorK15
import Derived.Test.YtkkebmciiiajeaaGreatDoorK16
set_option linter.unusedSimpArgs false
set_option linter.unusedVariables false
set_option maxHeartbeats 16000000
set_option maxRecDepth 100000
namespace Go.Bd
open Go.RowKit
def sortN (l:List ByteArray):List ByteArray:=((l.map fun n=>n.data.toList).mergeSort leB).map ofB
def newK (wm n:Nat):Nat→Nat:=fun k=>if k=wm then 2 else if k=n then 3 else if k=n+1 then 4 else if k=n+2 then 5 else if k=n+3 then 1 else 0
def zeroA:Ast:=⟨[],0,[],[],[],[],[],[],false⟩
theorem readS_lm {src:List Sc} (hz:∀s∈src,s.text.size≤99999) (attrs:List At) (name:ByteArray):(readS src attrs name).lines.length≤16384∧(readS src attrs name).diags.length≤32769∧(readS src attrs name).files.length≤16385∧(readS src attrs name).asked.length≤1638416384:=by
 unfold readS;cases hf:findS src name with
 | none=>exact⟨Nat.zero_le _,by simp,Nat.zero_le _,Nat.zero_le _⟩
 | some t =>
  have h1:=first_lm attrs;have h:=read_lm hz 16 [] name t (firstA attrs) 0 rfl hf h1.1 h1.2 (Nat.le_refl _) (Nat.le_refl _);dsimp only at h ⊢;have g0:=h.cnt;have g1:=h.lines;have g2:=h.diags;have g3:=h.files;have g4:=h.asked;refine⟨by omega,?_,by omega,by omega⟩;have:(if (readM src 16 [] name t (firstA attrs)).over then 1 else 0)≤1:=by split<;>omega
  omega
end Go.Bd
namespace Go.Proofs.YtkkebmciiiajeaaGreatDoor
open Go.RowKit Go.Bd Go.Shelf Go.Maps
theorem own_nil (w:World) (b sz:Nat) (e:TypeId):w.ownsRow b e sz (.slice none 0 0) 0 []:=⟨by simp,.inl ⟨rfl,rfl⟩⟩
theorem own_up {w:World}{b b' sz n:Nat}{e:TypeId}{v:Value}{xs:List Value} (h:w.ownsRow b e sz v n xs) (hb:∀k,v.ownBlock=some k→b'≤k):w.ownsRow b' e sz v n xs:=by
 obtain⟨h1,h2⟩:=h;refine⟨h1,?_⟩
 rcases h2 with h2|⟨g,cap,cur,h2,h3,h4⟩
 ·exact .inl h2
 ·refine .inr ⟨g,cap,cur,h2,hb g ?_,h4⟩;rw[h2];rfl
theorem new_ard {w4:World}{wm B n:Nat}{sv:Value} (hf:FsMap w4 Tryz.prog tTx wm wordsF) (hwl:wm<w4.heap.size) (hB:B≤wm) (h3:3≤B) (hn:w4.heap.size=n) :
  ARd ((((w4.alloc (.map #[] 0)).alloc (.map #[] 0)).alloc (.map #[] 0)).alloc (.cells #[sv,.slice none 0 0,.map (some wm),.slice none 0 0,.int .i64 0,.map (some n),.map (some (n+1)),.map (some (n+2)),.slice none 0 0,.slice none 0 0,.slice none 0 0] tAr)) (newK wm n) (n+3) wm sv ⟨.slice none 0 0,.slice none 0 0,.slice none 0 0,.slice none 0 0,.slice none 0 0,n,n+1,n+2,[]⟩ zeroA []:=by
 subst hn;have m1:=FsMap.new w4 Tryz.prog tTx;have m2:=FsMap.new (w4.alloc (.map #[] 0)) Tryz.prog tTx;have m3:=FsMap.new ((w4.alloc (.map #[] 0)).alloc (.map #[] 0)) Tryz.prog tTx;have e2:(w4.alloc (.map #[] 0)).heap.size=w4.heap.size+1:=World.size_alloc _ _;have e3:((w4.alloc (.map #[] 0)).alloc (.map #[] 0)).heap.size=w4.heap.size+2:=by rw[World.size_alloc,e2]
 have e4:(((w4.alloc (.map #[] 0)).alloc (.map #[] 0)).alloc (.map #[] 0)).heap.size=w4.heap.size+3:=by rw[World.size_alloc,e3]
 rw[e2] at m2;rw[e3] at m3;have a1:∀(W:World) (b:Obj),Chg W (W.alloc b) (fun _=>False):=fun W b=>(Chg.refl W _).alloc b
 have hX:=Holds.new (((w4.alloc (.map #[] 0)).alloc (.map #[] 0)).alloc (.map #[] 0)) tAr #[sv,.slice none 0 0,.map (some wm),.slice none 0 0,.int .i64 0,.map (some w4.heap.size),.map (some (w4.heap.size+1)),.map (some (w4.heap.size+2)),.slice none 0 0,.slice none 0 0,.slice none 0 0];rw[e4] at hX;refine⟨hX,own_nil _ _ _ _,((m1.chg (a1 _ _) (fun h=>h)).chg (a1 _ _) (fun h=>h)).chg (a1 _ _) (fun h=>h),(m2.chg (a1 _ _) (fun h=>h)).chg (a1 _ _) (fun h=>h),m3.chg (a1 _ _) (fun h=>h),
  own_nil _ _ _ _,own_nil _ _ _ _,own_nil _ _ _ _,own_nil _ _ _ _,rfl,(fun j p s h=>by simp at h),(((hf.chg (a1 _ _) (fun h=>h)).chg (a1 _ _) (fun h=>h)).chg (a1 _ _) (fun h=>h)).chg (a1 _ _) (fun h=>h),?_,?_,?_,?_,?_,
  (fun k h=>by cases h),(fun k h=>by cases h),(fun k h=>by cases h),(fun k h=>by cases h),(fun k h=>by cases h),fun k h=>?_,fun k h=>?_,List.Pairwise.nil,List.Pairwise.nil,List.Pairwise.nil⟩
 ·(try dsimp only);unfold newK;rw[if_neg (by omega),if_neg (by omega),if_neg (by omega),if_neg (by omega),if_pos rfl]
 ·(try dsimp only);unfold newK;rw[if_pos rfl]
 ·(try dsimp only);unfold newK;rw[if_neg (by omega),if_pos rfl]
 ·(try dsimp only);unfold newK;rw[if_neg (by omega),if_neg (by omega),if_pos rfl]
 ·(try dsimp only);unfold newK;rw[if_neg (by omega),if_neg (by omega),if_neg (by omega),if_pos rfl]
 ·rw[World.size_alloc,e4];unfold newK at h
  repeat' split at h
  all_goals omega
 ·unfold newK at h
  repeat' split at h
  all_goals omega
theorem set_perm {w:World}{P:Program}{K bm:Nat}{l:List ByteArray} (hu:Uniq (setFe l)) (hk:P.underlying K=some .string){D:DataW Value} (hown:w.ownsMap P K heldR bm (setFe l).length D) (hh:∀s:ByteArray,Maps.has D (nameL s)=(findF (setFe l) s).isSome):(l.map (fun n=>n.data.toList)).Perm (strKeys D):=by
 have e:l.map (fun n=>n.data.toList)=(setFe l).map (fun e=>e.name.data.toList):=by unfold setFe;rw[List.map_map];rfl
 rw[e];generalize setFe l=es at *;refine Collected.perm (left:=fun _=>false) ⟨?_,fun x=>?_⟩ hown (string_keyed hk) hk (fun _=>rfl)
 ·rw[List.nodup_iff_pairwise_ne,List.pairwise_map];refine hu.imp (fun {a b} hne e=>hne ?_);cases ha:a.name with
  | mk da =>
   cases hb:b.name with
   | mk db =>
    rw[ha,hb] at e;simp only at e;rw[Array.toList_inj.1 e]
 ·have h1:=hh ⟨⟨x⟩⟩;unfold nameL at h1;simp only at h1;rw[h1];simp only[and_true];rw[List.mem_map];constructor
  ·rintro⟨e,he,rfl⟩;exact List.find?_isSome.2 ⟨e,he,by simp⟩
  ·intro hs;obtain⟨e,he,hp⟩:=List.find?_isSome.1 hs;have hn:e.name=⟨⟨x⟩⟩:=by simpa using hp
   exact⟨e,he,by rw[hn]⟩
theorem readsrc_any {S:Nat→Prop}{src:List Sc}{sv:Value}{rb wm:Nat} (hsn:src.length≤1000000000) (hz:∀s∈src,s.text.size≤99999){m:Int}:∀(d:Nat){w:World}{κ:Nat→Nat}{v:Rv}{st:Ast}{stk:Stk}{j:Nat} (name text:ByteArray),
  stk.length+(d+1)=16→ARd w κ rb wm sv v st stk→st.over=false→ScS w S sv src→(∀k,S k→k<w.heap.size∧κ k=0)→Lm 0 j st→st.files.length≤st.count→st.begun.length≤st.count→Glob m w→name.size≤100000→findS src name=some text →
  Calls Tryz.prog 62 #[.pointer (some ⟨rb,0,none⟩),.string name,.string text] w fun e w'=>ReadP [⟨.iface 125 (.int .i64 1),false,false⟩] w κ rb wm sv v stk (readM src (d+1) (stk.map (·.1)) name text st) e w'
 | 0,w,κ,v,st,stk,j,name,text,hn,h,ho,hsc,hS,hlm,hfl,hbl,hg,hnz,hf =>
  read_step (d:=0) h ho hsc hS hsn hz hlm hfl hbl hg name text hnz hf (by omega) (fun W κ' v' st' stk' rest t hl h16=>by omega)
 | d+1,w,κ,v,st,stk,j,name,text,hn,h,ho,hsc,hS,hlm,hfl,hbl,hg,hnz,hf =>
  read_step (d:=d+1) h ho hsc hS hsn hz hlm hfl hbl hg name text hnz hf (by omega) (fun W κ' v' st' stk' rest t hl h16 hM hA ho' hj hfl' hbl' hr hf'=>by
   obtain⟨j',hj'⟩:=hj;exact readsrc_any hsn hz d rest t (by omega) hA ho' (TwoS.chg hsc hM.chg (fun k hk e=>e (hS k hk).2)) (fun k hk=>⟨Nat.lt_of_lt_of_le (hS k hk).1 hM.chg.size,(hM.same k (hS k hk).1).trans (hS k hk).2⟩) hj' hfl' hbl' (hg.chg hM.chg (fun k hk=>h.three k hk)) hr hf')
def rowK (κ:Nat→Nat) (n:Nat) (v:Value) (c:Nat):Nat→Nat:=fun k=>if k<n then κ k else if v.ownBlock=some k then c else 0
def Fst (w:World) (rb wm:Nat) (sv:Value) (st:Ast) (wx:World):Prop:=∃κ v,ARd wx κ rb wm sv v st []∧(∀k,k<w.heap.size→κ k=0)∧Below w.heap.size w wx
theorem aread_any {w:World}{S T:Nat→Prop}{sv av:Value}{src:List Sc}{attrs:List At} (hsc:ScS w S sv src) (hat:AtS w T av attrs) (hS:∀k,S k→k<w.heap.size) (hT:∀k,T k→k<w.heap.size) (hsn:src.length≤1000000000) (han:attrs.length≤1000000000)
  (hz:∀s∈src,s.text.size≤99999) (haz:∀a∈attrs,a.name.size≤100000∧a.value.size≤100000) {m:Int} (hg:Glob m w) (h3:3≤w.heap.size) (name:ByteArray) (hnz:name.size≤100000) :
  Calls Tryz.prog 16 #[sv,av,.string name] w fun e w'=>∃lv dv fv kv,e=.returned (.tuple #[lv,dv,fv,kv])∧w'.ownsRow w.heap.size tLn 3 lv (readS src attrs name).lines.length (rowLn (readS src attrs name).lines)∧w'.ownsRow w.heap.size tDg 4 dv (readS src attrs name).diags.length (rowD (readS src attrs name).diags) ∧
   w'.ownsRow w.heap.size tTx 1 fv (readS src attrs name).files.length (rowTx (readS src attrs name).files)∧w'.ownsRow w.heap.size tTx 1 kv (sortN (readS src attrs name).asked).length (rowTx (sortN (readS src attrs name).asked))∧Below w.heap.size w w':=by
 have hF:=Find_any hsc hS hsn name;have HH:=hidH8 hsc hat hS hT hz haz hg h3;obtain⟨As,cs,hsv,_⟩:=hsc;rw[List.length_map] at hsv;obtain⟨sn,hsn2⟩:∃sn,src.length=sn:=⟨_,rfl⟩;rw[hsn2] at hsv;subst hsv;clear hat hS hT hz haz hg;cases hf:findS src name with
 | none =>
  rw[hf] at hF;unfold getV at hF;have hr:readS src attrs name={ firstA [] with diags:=[⟨name,0,1,name⟩] }:=by unfold readS;rw[hf]
  have HF:=hidH2 hF hr;clear hF hr hf hsn2
  go_enter Tryz.func16,Tryz.ntmps16
  go_wp2_with fail
  refine HF.out.1.mono ?_;rintro e w1 ⟨rfl,hb1⟩;have HB:=Lib.hid hb1;clear hb1;go_wp2;refine bodyPost_ret (results_tmp4 rfl _ _ _) rfl ?_;rw[HF.out.2];have es:sortN []=[]:=by simp[sortN]
  refine⟨.slice none 0 0,.slice (some ⟨w1.heap.size,0,none⟩) 1 1,.slice none 0 0,.slice none 0 0,rfl,own_nil _ _ _ _,?_,own_nil _ _ _ _,?_,HB.out.alloc (HB.out.size) _⟩;rotate_left
  ·show World.ownsRow _ _ _ _ _ (sortN []).length (rowTx (sortN []))
   rw[es];exact own_nil _ _ _ _
  exact own_shut (heap_alloc_new w1 _) (by simp) (by simp[rowD,dgCells]) (Nat.le_refl _) (by unfold maxLen;omega) HB.out.size
 | some t =>
  rw[hf] at hF;unfold getV at hF;have hr:readS src attrs name=readM src 16 [] name t (firstA attrs):=by unfold readS;rw[hf]
  have HF:=hidH3 hF hr hf;clear hF hr hf hsn2;have hmm:=@run_makeMap Tryz.prog
  go_enter Tryz.func16,Tryz.ntmps16
  go_wp2_with fail
  refine HF.out.1.mono ?_;rintro e w1 ⟨rfl,hb1⟩;have hW:=words_any w1;have HW:=hidH2 hb1 hW;clear hb1 hW
  go_wp2_with fail
  refine HW.out.2.mono ?_;rintro e w2 ⟨rfl,hf2,hb2,hs2⟩;obtain⟨wm,hwm⟩:∃wm,w1.heap.size=wm:=⟨_,rfl⟩;rw[hwm] at hf2 hb2 hs2 ⊢;obtain⟨n,hn⟩:∃n,w2.heap.size=n:=⟨_,rfl⟩;rw[hn] at hs2;have hwl:wm<w2.heap.size:=by omega
  have HS2:=Lib.hid hs2;clear hs2;have hwB:w.heap.size≤wm:=by rw[←hwm];exact HW.out.1.size
  have hA0:=new_ard (sv:=.slice As sn cs) hf2 hwl hwB HH.out.2.2.2.2.2.2.2 hn;have hb4:Below w.heap.size w ((((w2.alloc (.map #[] 0)).alloc (.map #[] 0)).alloc (.map #[] 0)).alloc (.cells #[.slice As sn cs,.slice none 0 0,.map (some wm),.slice none 0 0,.int .i64 0,.map (some n),.map (some (n+1)),.map (some (n+2)),.slice none 0 0,.slice none 0 0,.slice none 0 0] 84)):=by
   have h1:Below w.heap.size w w2:=HW.out.1.trans (hb2.mono hwB);exact (((h1.alloc (by omega) _).alloc (by simp;omega) _).alloc (by simp;omega) _).alloc (by simp;omega) _
  have hr1:(w2.alloc (.map #[] 0)).heap.size=n+1:=by rw[World.size_alloc,hn]
  have hr2:((w2.alloc (.map #[] 0)).alloc (.map #[] 0)).heap.size=n+2:=by rw[World.size_alloc,hr1]
  have hr3:(((w2.alloc (.map #[] 0)).alloc (.map #[] 0)).alloc (.map #[] 0)).heap.size=n+3:=by rw[World.size_alloc,hr2]
  obtain⟨W4,hW4⟩:∃W4,(((w2.alloc (.map #[] 0)).alloc (.map #[] 0)).alloc (.map #[] 0)).alloc (.cells #[.slice As sn cs,.slice none 0 0,.map (some wm),.slice none 0 0,.int .i64 0,.map (some n),.map (some (n+1)),.map (some (n+2)),.slice none 0 0,.slice none 0 0,.slice none 0 0] 84)=W4:=⟨_,rfl⟩;have hW4':=hW4;unfold tAr at hA0;rw[hW4] at hA0 hb4;have hC:=Check_any (TwoS.below HH.out.2.1 hb4) (fun k hk=>Nat.lt_of_lt_of_le (HH.out.2.2.2.1 k hk) hb4.size) han HH.out.2.2.2.2.2.1;have HA:=hidH4 hA0 hb4 hC hwB;clear hA0 hb4 hC hwB hwm hb2 hf2
  go_wp2_with fail
  refine HA.out.2.2.1.mono ?_;rintro e W5 ⟨rfl,hb5⟩;obtain⟨cb,hcb⟩:∃cb,checkB attrs=cb:=⟨_,rfl⟩;have hA5:=HA.out.1.below hb5;have hb5':=HA.out.2.1.trans (hb5.mono HA.out.2.1.size);have hat5:=TwoS.below HH.out.2.1 hb5';have hCl:=cloneA_any attrs T av W5 hat5 (fun k hk=>Nat.lt_of_lt_of_le (HH.out.2.2.2.1 k hk) hb5'.size) han;have hk0:∀k,k<w.heap.size→newK wm n k=0:=fun k hk=>by
   have h1:=HA.out.2.2.2;have h2:=HS2.out;unfold newK;rw[if_neg (by omega),if_neg (by omega),if_neg (by omega),if_neg (by omega),if_neg (by omega)]
  rw[hcb];have H5:=hidH5 hA5 hb5' hCl hk0 hcb;clear hA5 hb5' hat5 hCl hk0 hcb hb5 hW4 hW4' hmm
  go_upto_if 33 with fail
  go_cut [] (fun wx=>Hid (Fst w (n+3) wm (.slice As sn cs) (firstA attrs) wx))
  case first =>
   cases cb
   ·go_wp2_with fail
    go_meet
    case rel =>
     have e:firstA attrs=zeroA:=by unfold firstA;rw[if_neg (by rw[H5.out.2.2.2.2];decide)];rfl
     rw[e];exact Lib.hid ⟨newK wm n,_,H5.out.1,H5.out.2.2.2.1,H5.out.2.1⟩
   ·go_wp2_with fail
    refine H5.out.2.2.1.mono ?_;rintro e W6 ⟨v6,rfl,hrow,hb6⟩;obtain⟨A6,c6,hv6,_⟩:=own_rowL hrow;subst hv6;have hA6:=H5.out.1.below hb6;have c1:=hA6.hold.cell 1;have f1:=hA6.hold.free 1;simp at c1;obtain⟨an,han2⟩:∃an,attrs.length=an:=⟨_,rfl⟩;have hrow':=hrow;rw[han2] at hrow' ⊢;have H6:=hidH4 hA6 hb6 hrow' han2;clear hA6 hb6 hrow hrow' han2
    go_wp2_with fail
    go_meet
    case rel =>
     have e:firstA attrs={ zeroA with attrs:=attrs }:=by unfold firstA;rw[if_pos H5.out.2.2.2.2];rfl
     rw[e];have hS:=Chg.set W6 ⟨n+3,1,none⟩ (.slice A6 an c6);have hold:∀k,k<W5.heap.size→rowK (newK wm n) W5.heap.size (.slice A6 an c6) 6 k=newK wm n k:=fun k hk=>by unfold rowK;rw[if_pos hk]
     have hz:(W6.setCell ⟨n+3,1,none⟩ (.slice A6 an c6)).heap.size=W6.heap.size:=by simp[World.setCell]
     have hown:∀k,(Value.slice A6 an c6).ownBlock=some k→W5.heap.size≤k∧k<W6.heap.size:=fun k hk=>by
      obtain⟨h1,cur,h2⟩:=own_obj H6.out.2.2.1 (g:=k) hk;exact⟨h1,(Array.getElem?_eq_some_iff.1 h2).1⟩
     have R:Rest W5 (W6.setCell ⟨n+3,1,none⟩ (.slice A6 an c6)) (newK wm n) 6 (rowK (newK wm n) W5.heap.size (.slice A6 an c6) 6):=by
      refine⟨(Chg.below H6.out.2.1 _).trans hS (fun k _ hk=>.inl (by rw[show k=n+3 from hk];exact H5.out.1.kR)),hold,fun k hk=>?_⟩;rw[hz];unfold rowK at hk;split at hk
      ·have:=H6.out.2.1.size;omega
      ·split at hk
       ·rename_i h1;exact (hown k h1).2
       ·exact absurd rfl hk
     refine Lib.hid ⟨_,_,H5.out.1.set_attrs R (H6.out.1.hold.set 1 _) (x:=.slice A6 an c6) (l:=attrs) ?_ (fun k hk=>?_),fun k hk=>?_,?_⟩
     ·rw[H6.out.2.2.2];exact hS.owns (own_up H6.out.2.2.1 (fun k _=>Nat.zero_le k)) (fun k hk e=>by have h1:=(hown k hk).1;have h2:=H5.out.1.hold.lt;have e:k=n+3:=e;omega)
     ·unfold rowK;rw[if_neg (by have:=(hown k hk).1;omega),if_pos hk]
     ·rw[hold k (by have:=H5.out.2.1.size;omega)];exact H5.out.2.2.2.1 k hk
     ·have h1:=H5.out.2.1.trans (H6.out.2.1.mono H5.out.2.1.size);exact h1.trans (hS.toBelow h1.size (fun k hk=>by have h2:=HA.out.2.2.2;have h3:=HS2.out;have e:k=n+3:=hk;omega))
  case rest =>
   obtain⟨κ1,v1,h1,hk1,hb1⟩:=hcut.out;have hlm:=first_lm attrs;have hrd:=readsrc_any (sv:=.slice As sn cs) (rb:=n+3) (wm:=wm) hsn HH.out.2.2.2.2.1 15 (stk:=[]) name t rfl h1 hlm.2 (TwoS.below HH.out.1 hb1) (fun k hk=>⟨Nat.lt_of_lt_of_le (HH.out.2.2.1 k hk) hb1.size,hk1 k (HH.out.2.2.1 k hk)⟩) hlm.1 (Nat.le_refl _) (Nat.le_refl _) (HH.out.2.2.2.2.2.2.1.chg (Chg.below hb1 (fun _=>False)) (fun _ h=>h.elim)) hnz HF.out.2.2;have hrun:=run_of (R:=fun w'=>∃κ' v' stk',ARd w' κ' (n+3) wm (.slice As sn cs) v' (readM src 16 [] name t (firstA attrs)) stk'∧Mv wc w' κ1 κ') (hrd.mono (fun e w' hP=>by
    have hP2:ReadP _ wc κ1 (n+3) wm (.slice As sn cs) v1 [] (readM src 16 [] name t (firstA attrs)) e w':=hP;unfold ReadP at hP2
    by_cases ho:(readM src 16 [] name t (firstA attrs)).over=true
    ·rw[if_pos ho] at hP2;obtain⟨he,κ',v',stk',h2,h3⟩:=hP2;exact⟨⟨κ',v',stk',h2,h3⟩,.inr he⟩
    ·rw[if_neg ho] at hP2;obtain⟨he,κ',v',_,h2,h3⟩:=hP2;exact⟨⟨κ',v',_,h2,h3⟩,.inl he⟩))
   have HR:=hidH4 hrun hk1 hb1 h1.lt;clear hrun hk1 hb1 h1 hrd hlm hcut
   go_wp2_with fail
   refine HR.out.1.mono ?_;rintro e w7 ⟨rfl,κ7,v7,stk7,h7,m7⟩;have hr:=HF.out.2.1;obtain⟨r,hrr⟩:∃r,readM src 16 [] name t (firstA attrs)=r:=⟨_,rfl⟩;rw[hrr] at h7 hr;have c8:=h7.hold.cell 8;have c9:=h7.hold.cell 9;have c10:=h7.hold.cell 10;have c6:=h7.hold.cell 6;simp at c8 c9 c10 c6;obtain⟨A8,k8,hl8,_⟩:=own_rowL h7.lines;obtain⟨A9,k9,hl9,_⟩:=own_rowL h7.diags;obtain⟨A10,k10,hl10,_⟩:=own_rowL h7.files;have hk7:∀k,κ7 k≠0→w.heap.size≤k:=fun k hk=>by
    by_cases e:k<wc.heap.size
    ·rw[m7.same k e] at hk
     rcases Nat.lt_or_ge k w.heap.size with h|h
     ·exact absurd (HR.out.2.1 k h) hk
     ·exact h
    ·have:=HR.out.2.2.1.size;omega
   have hb7:Below w.heap.size w w7:=HR.out.2.2.1.trans (m7.chg.toBelow HR.out.2.2.1.size (fun k hk=>by
    rcases Nat.lt_or_ge k w.heap.size with h|h
    ·exact absurd (HR.out.2.1 k h) hk
    ·exact h))
   have g8:=own_up h7.lines (fun k hk=>hk7 k (by rw[h7.kL k hk];decide));have g9:=own_up h7.diags (fun k hk=>hk7 k (by rw[h7.kG k hk];decide));have g10:=own_up h7.files (fun k hk=>hk7 k (by rw[h7.kF k hk];decide));rw[hl8] at c8 g8;rw[hl9] at c9 g9;rw[hl10] at c10 g10;have hlz:=readS_lm HH.out.2.2.2.2.1 attrs name;rw[hr] at hlz;have m6:=h7.asked.chg ((Chg.refl w7 (fun _=>False)).drew) (fun h=>h);obtain⟨D,hown,hsz,hhas,_⟩:=m6;have hpm:=set_perm h7.uA str_under hown hhas;have hsl:(setFe r.asked).length≤1638416384:=by rw[set_len];exact hlz.2.2.2
   have hsrt:=Tryz.slices_Sorted_keys_35_36 v7.am (setFe r.asked).length D heldR w7.drew hown (by rw[hsz];simp only[maxLen];omega) (by rw[hsz];omega);have hky:=Tryz.maps_Keys_36 (some v7.am) w7.drew;obtain⟨am,ham⟩:∃am,v7.am=am:=⟨_,rfl⟩;rw[ham] at hsrt hky c6;obtain⟨n8,hn8⟩:∃n8,r.lines.length=n8:=⟨_,rfl⟩;obtain⟨n9,hn9⟩:∃n9,r.diags.length=n9:=⟨_,rfl⟩;obtain⟨n10,hn10⟩:∃n10,r.files.length=n10:=⟨_,rfl⟩;rw[hn8] at c8 g8;rw[hn9] at c9 g9;rw[hn10] at c10 g10;have hlt:n+3<w7.heap.size:=h7.hold.lt;have hdz:w7.drew.heap.size=w7.heap.size:=rfl;have D8:(w7.drew.alloc (.cells #[.map (some am)] 81)).cell? ⟨n+3,8,none⟩=some (.slice A8 n8 k8)∧(w7.drew.alloc (.cells #[.map (some am)] 81)).cell? ⟨n+3,9,none⟩=some (.slice A9 n9 k9)∧(w7.drew.alloc (.cells #[.map (some am)] 81)).cell? ⟨n+3,10,none⟩=some (.slice A10 n10 k10)∧(w7.drew.alloc (.cells #[.map (some am)] 81)).cell? ⟨n+3,6,none⟩=some (.map (some am)) :=
    ⟨by rw[World.cell?_alloc_lt _ _ _ (by rw[hdz];exact hlt)];exact c8,by rw[World.cell?_alloc_lt _ _ _ (by rw[hdz];exact hlt)];exact c9,by rw[World.cell?_alloc_lt _ _ _ (by rw[hdz];exact hlt)];exact c10,by rw[World.cell?_alloc_lt _ _ _ (by rw[hdz];exact hlt)];exact c6⟩
   have hb8:Below w7.heap.size w7 (w7.drew.alloc (.cells #[.map (some am)] 81)):=((Below.refl w7.heap.size w7).drew).alloc (Nat.le_refl _) _;have H7:=Lib.hid (And.intro hr (And.intro hpm (And.intro hsrt (And.intro hky (And.intro g8 (And.intro g9 (And.intro g10 (And.intro hb7 (And.intro hb8 (And.intro hn8 (And.intro hn9 (And.intro hn10 (And.intro hlt D8)))))))))))));clear hr hpm hsrt hky g8 g9 g10 hb7 hb8 hn8 hn9 hn10 h7 m7 hlz hown hsz hhas hsl ham hrr hk7 hl8 hl9 hl10
   go_wp2_with fail
   refine wp_region_held_drew (S:=(fun w'=>w'.cell? ⟨n+3,8,none⟩=some (.slice A8 n8 k8)∧w'.cell? ⟨n+3,9,none⟩=some (.slice A9 n9 k9)∧w'.cell? ⟨n+3,10,none⟩=some (.slice A10 n10 k10)∧w'.cell? ⟨n+3,6,none⟩=some (.map (some am)))) (by kernel_rfl) ?_ (fun hHeld0=>?_)
   ·(try dsimp only)
    first|exact⟨c8,c9,c10,c6⟩|exact D8|exact E8
   refine tkH 0 43 ?_;refine tkH 1 44 ?_;refine tkH 2 45 ?_;refine tkH 3 46 ?_;refine tkH 4 47 ?_;refine tkH 5 48 ?_;refine tkH 6 49 ?_;refine tkH 7 50 ?_;refine tkH 8 51 ?_;refine tkH 9 52 ?_;refine tkH 10 53 ?_;refine tkH 11 54 ?_;refine tkH 12 55 ?_;refine tkH 13 56 ?_;refine tkH 14 57 ?_;refine tkH 15 58 ?_;refine rdyH [16] ?_;refine AllReadyH.cons (o:=⟨some 59,_,_,_,_,_⟩) rfl (fun K hK=>?_) AllReadyH.nil;go_simp;refine (callsIn_wide.1 H7.out.2.2.2.1).mono ?_;rintro e w8 ⟨rfl,rfl⟩;refine hK.out _ _ ?_ (fun hHeld1=>?_)
   ·(try dsimp only)
    first|exact⟨c8,c9,c10,c6⟩|exact D8|exact E8
   clear hK K hHeld0
   (try go_frame)
   refine rdyH [17] ?_;refine AllReadyH.cons (o:=⟨some 60,_,_,_,_,_⟩) rfl (fun K hK=>?_) AllReadyH.nil;go_simp;refine (callsIn_wide.1 H7.out.2.2.1).mono ?_;rintro e w9 ⟨vs,ss,rfl,hp,hrow,_,hb9⟩;have hl9:n+3<(w7.drew.alloc (.cells #[.map (some am)] 81)).heap.size:=Nat.lt_of_lt_of_le H7.out.2.2.2.2.2.2.2.2.2.2.2.2.1 H7.out.2.2.2.2.2.2.2.2.1.size;have E8:w9.cell? ⟨n+3,8,none⟩=some (.slice A8 n8 k8)∧w9.cell? ⟨n+3,9,none⟩=some (.slice A9 n9 k9)∧w9.cell? ⟨n+3,10,none⟩=some (.slice A10 n10 k10)∧w9.cell? ⟨n+3,6,none⟩=some (.map (some am)) :=
    ⟨(hb9.cell (p:=⟨n+3,8,none⟩) hl9).trans D8.1,(hb9.cell (p:=⟨n+3,9,none⟩) hl9).trans D8.2.1,(hb9.cell (p:=⟨n+3,10,none⟩) hl9).trans D8.2.2.1,(hb9.cell (p:=⟨n+3,6,none⟩) hl9).trans D8.2.2.2⟩
   have H9:=hidH3 hp hrow hb9;clear hp hrow hb9;refine hK.out _ _ ?_ (fun hHeld2=>?_)
   ·(try dsimp only)
    first|exact⟨c8,c9,c10,c6⟩|exact D8|exact E8
   clear hK K hHeld1
   (try go_frame)
   refine tkH 18 6 ?_;refine tkH 19 7 ?_;refine tkH 20 8 ?_;refine tkH 21 9 ?_;refine wpAnyH_done (by kernel_rfl) ?_ _;go_wp2;refine bodyPost_ret (results_tmp4 rfl _ _ _) rfl ?_;rw[H7.out.1];have hb7:=H7.out.2.2.2.2.2.2.2.1;have hb8:=H7.out.2.2.2.2.2.2.2.2.1;have hb79:Below w7.heap.size w7 w9:=hb8.trans (H9.out.2.2.mono hb8.size);have hch:Chg w7 w9 (fun _=>False):=Chg.below hb79 _;refine⟨.slice A8 n8 k8,.slice A9 n9 k9,.slice A10 n10 k10,vs,rfl,?_,?_,?_,?_,hb7.trans (hb79.mono hb7.size)⟩
   ·rw[H7.out.2.2.2.2.2.2.2.2.2.1];exact hch.owns H7.out.2.2.2.2.1 (fun _ _ h=>h)
   ·rw[H7.out.2.2.2.2.2.2.2.2.2.2.1];exact hch.owns H7.out.2.2.2.2.2.1 (fun _ _ h=>h)
   ·rw[H7.out.2.2.2.2.2.2.2.2.2.2.2.1];exact hch.owns H7.out.2.2.2.2.2.2.1 (fun _ _ h=>h)
   ·have hpp:=mergeSort_of_perm (H9.out.1.trans H7.out.2.1.symm);have e1:rowTx (sortN r.asked)=(ss.mergeSort leB).map encStr:=by
     unfold rowTx sortN;rw[hpp,List.map_map];refine List.map_congr_left (fun x _=>?_);rfl
    have e2:(sortN r.asked).length=ss.length:=by
     unfold sortN;rw[List.length_map,←hpp,List.length_mergeSort]
    rw[e1,e2];exact own_up H9.out.2.1 (fun k hk=>by
     have h1:=(own_obj H9.out.2.1 (g:=k) hk).1;have h2:=hb8.size;have h3:=hb7.size;omega)
end Go.Proofs.YtkkebmciiiajeaaGreatDoor
namespace Go.Bd
open Go.RowKit Go.Proofs.YtkkebmciiiajeaaGreatDoor
structure Ch where
 name:ByteArray
 blocks:List Bl
 diags:List Dg
 files:List ByteArray
 attrs:List At
 unset:List ByteArray
def opensB (b:Bl):Bool:=decide (b.kind=1)&&decide (b.level=1)
def firstD (name:ByteArray):List Bl→List Dg
 | []=>[⟨name,1,13,⟨#[]⟩⟩]
 | b::_=>if opensB b then [] else [⟨name,1,13,⟨#[]⟩⟩]
def againD (l:List Bl):List Dg:=(l.filter opensB).map fun b=>⟨b.file,b.line,13,ofB (sayL b.spans)⟩
def gotA (a:List At) (l:List ByteArray):List At:=l.filterMap fun n=>(getA a n).map fun v=>⟨n,v⟩
def lackA (a:List At) (l:List ByteArray):List ByteArray:=l.filter fun n=>(getA a n).isNone
def chapR (r:Ast) (a:List At) (name:ByteArray):Ch :=
 ⟨name,blocksOf r.lines,r.diags++diagsOf r.lines++firstD name (blocksOf r.lines)++againD (blocksOf r.lines).tail,r.files,gotA a (sortN r.asked),lackA a (sortN r.asked)⟩
def chapM (src:List Sc) (attrs:List At) (name:ByteArray):Ch:=chapR (readS src attrs name) (firstA attrs).attrs name
theorem againD_snoc (l:List Bl) (b:Bl):againD (l++[b])=againD l++if opensB b then [⟨b.file,b.line,13,ofB (sayL b.spans)⟩] else []:=by
 unfold againD;rw[List.filter_append,List.map_append];cases h:opensB b<;>simp[h]
theorem gotA_snoc (a:List At) (l:List ByteArray) (n:ByteArray):gotA a (l++[n])=gotA a l++match getA a n with|some v=>[⟨n,v⟩]|none=>[]:=by
 unfold gotA;rw[List.filterMap_append];cases h:getA a n<;>simp[h]
theorem lackA_snoc (a:List At) (l:List ByteArray) (n:ByteArray):lackA a (l++[n])=lackA a l++match getA a n with|some _=>[]|none=>[n]:=by
 unfold lackA;rw[List.filter_append];cases h:getA a n<;>simp[h]
def TxS (w:World) (S:Nat→Prop) (v:Value) (l:List ByteArray):Prop :=
 ∃A c,v=.slice A l.length c∧l.length≤c∧∀(j:Nat) s,l[j]? = some s→∃b off,A=some ⟨b,off,none⟩∧S b∧w.cell? ⟨b,off+j,none⟩=some (.string s)
end Go.Bd
namespace Go.Proofs.YtkkebmciiiajeaaGreatDoor
open Go.RowKit Go.Bd
def tCh:TypeId:=32
theorem TxS.own {w:World}{b n:Nat}{v:Value}{l:List ByteArray} (h:w.ownsRow b tTx 1 v n (rowTx l)) (hn:n=l.length){S:Nat→Prop} (hS:∀k,v.ownBlock=some k→S k):TxS w S v l:=by
 subst hn
 rcases h.2 with ⟨h1,h2⟩|⟨g,cap,cur,h1,_,_,h4,_⟩
 ·exact⟨none,0,by rw[h1,h2],by rw[h2];exact Nat.le_refl _,fun j s hj=>by have:=(List.getElem?_eq_some_iff.1 hj).1;omega⟩
 ·refine⟨_,cap,h1,h4,fun j s hj=>?_⟩;have hc:=h.cells (g:=g) (by rw[h1];rfl) j (.string s) (by unfold rowTx;rw[List.getElem?_map,hj];rfl);rw[addr_add] at hc;refine⟨g,0,rfl,hS g (by rw[h1];rfl),?_⟩;rw[Nat.zero_add];exact hc
theorem AtS.own {w:World}{b n:Nat}{v:Value}{l:List At} (h:w.ownsRow b tAt 2 v n (rowAt l)) (hn:n=l.length){S:Nat→Prop} (hS:∀k,v.ownBlock=some k→S k):AtS w S v l:=by
 subst hn;unfold AtS TwoS;rw[List.length_map]
 rcases h.2 with ⟨h1,h2⟩|⟨g,cap,cur,h1,_,_,h4,_⟩
 ·exact⟨none,0,by rw[h1,h2],by rw[h2];exact Nat.le_refl _,fun j s hj=>by have:=(List.getElem?_eq_some_iff.1 hj).1;rw[List.length_map] at this;omega⟩
 ·refine⟨_,cap,h1,h4,fun j f hj=>?_⟩;rw[List.getElem?_map] at hj;cases ha:l[j]? with
  | none=>rw[ha] at hj;cases hj
  | some a =>
   rw[ha] at hj;cases hj
   have hc:=fun i u (hu:(atCells a)[i]? = some u)=>h.cells (g:=g) (by rw[h1];rfl) (j*2+i) u (flat_get atCells 2 (fun _=>rfl) ha hu)
   refine⟨g,0,rfl,hS g (by rw[h1];rfl),?_,?_⟩
   ·have:=hc 0 _ rfl
    rw[addr_add] at this;rw[Nat.zero_add];exact this
   ·have:=hc 1 _ rfl
    rw[addr_add] at this;rw[Nat.zero_add];exact this
theorem LinesAt.own {w:World}{b n:Nat}{v:Value}{l:List Ln} (h:w.ownsRow b tLn 3 v n (rowLn l)) (hn:n=l.length){S:Nat→Prop} (hS:∀k,v.ownBlock=some k→S k):LinesAt w S v l:=by
 subst hn;unfold LinesAt
 rcases h.2 with ⟨h1,h2⟩|⟨g,cap,cur,h1,_,_,h4,_⟩
 ·exact⟨none,0,by rw[h1,h2],by rw[h2];exact Nat.le_refl _,fun hne=>absurd (List.length_eq_zero_iff.1 h2) hne⟩
 ·refine⟨_,cap,h1,h4,fun _=>⟨g,0,rfl,hS g (by rw[h1];rfl),fun j x hj i u hu=>?_⟩⟩;have hc:=h.cells (g:=g) (by rw[h1];rfl) (j*3+i) u (flat_get lnCells 3 (fun _=>rfl) hj hu);rw[addr_add] at hc;rw[Nat.zero_add];exact hc
structure ChR (w:World) (C:Nat) (name:ByteArray) (bv fv D Av Uv:Value) (ds:List Dg) (ats:List At) (us:List ByteArray):Prop where
 hold:Holds w C tCh #[.string name,bv,D,fv,Av,Uv]
 d:w.ownsRow (C+1) tDg 4 D ds.length (rowD ds)
 a:w.ownsRow (C+1) tAt 2 Av ats.length (rowAt ats)
 u:w.ownsRow (C+1) tTx 1 Uv us.length (rowTx us)
 da:∀k,D.ownBlock=some k→Av.ownBlock≠some k
 du:∀k,D.ownBlock=some k→Uv.ownBlock≠some k
 au:∀k,Av.ownBlock=some k→Uv.ownBlock≠some k
section
variable {w w2:World} {C:Nat} {name:ByteArray} {bv fv D Av Uv:Value} {ds:List Dg} {ats:List At} {us:List ByteArray}
theorem own_lt {b sz n:Nat}{e:TypeId}{v:Value}{xs:List Value} (h:w.ownsRow b e sz v n xs){k:Nat} (hk:v.ownBlock=some k):b≤k∧k<w.heap.size:=by
 obtain⟨h1,cur,h2⟩:=own_obj h (g:=k) hk;exact⟨h1,(Array.getElem?_eq_some_iff.1 h2).1⟩
theorem ChR.chg {S:Nat→Prop} (h:ChR w C name bv fv D Av Uv ds ats us) (hc:Chg w w2 S) (hS:∀k,S k→¬C≤k):ChR w2 C name bv fv D Av Uv ds ats us :=
 ⟨hc.holds (fun e=>hS C e (Nat.le_refl _)) h.hold,hc.owns h.d (fun k hk e=>hS k e (by have:=(own_lt h.d hk).1;omega)),hc.owns h.a (fun k hk e=>hS k e (by have:=(own_lt h.a hk).1;omega)),hc.owns h.u (fun k hk e=>hS k e (by have:=(own_lt h.u hk).1;omega)),h.da,h.du,h.au⟩
theorem ChR.below (h:ChR w C name bv fv D Av Uv ds ats us) (hb:Below w.heap.size w w2):ChR w2 C name bv fv D Av Uv ds ats us:=h.chg (Chg.below hb (fun _=>False)) (fun _ h=>h.elim)
theorem ChR.set_d (h:ChR w C name bv fv D Av Uv ds ats us) (hc:Chg w w2 (fun k=>D.ownBlock=some k)){D':Value}{ds':List Dg} (ho:w2.ownsRow (C+1) tDg 4 D' ds'.length (rowD ds')) (hn:∀k,D'.ownBlock=some k→D.ownBlock=some k∨w.heap.size≤k) :
  ChR (w2.setCell ⟨C,2,none⟩ D') C name bv fv D' Av Uv ds' ats us∧Below C w (w2.setCell ⟨C,2,none⟩ D'):=by
 have hS:=Chg.set w2 ⟨C,2,none⟩ D';have hCl:=h.hold.lt;have hz:(w2.setCell ⟨C,2,none⟩ D').heap.size=w2.heap.size:=by simp[World.setCell]
 refine⟨⟨(hc.holds (fun e=>by have:=(own_lt h.d e).1;omega) h.hold).set 2 _,hS.owns ho (fun k hk e=>by have h1:=(own_lt ho hk).1;have e:k=C:=e;omega),hS.owns (hc.owns h.a (fun k hk e=>h.da k e hk)) (fun k hk e=>by have h1:=(own_lt h.a hk).1;have e:k=C:=e;omega),hS.owns (hc.owns h.u (fun k hk e=>h.du k e hk)) (fun k hk e=>by have h1:=(own_lt h.u hk).1;have e:k=C:=e;omega),fun k hk e=>?_,fun k hk e=>?_,h.au⟩,?_⟩
 ·rcases hn k hk with h1|h1
  ·exact h.da k h1 e
  ·have:=(own_lt h.a e).2;omega
 ·rcases hn k hk with h1|h1
  ·exact h.du k h1 e
  ·have:=(own_lt h.u e).2;omega
 ·exact (hc.toBelow (by omega) (fun k hk=>by have:=(own_lt h.d hk).1;omega)).trans (hS.toBelow (by have:=hc.size;omega) (fun k hk=>Nat.le_of_eq hk.symm))
theorem ChR.set_a (h:ChR w C name bv fv D Av Uv ds ats us) (hc:Chg w w2 (fun k=>Av.ownBlock=some k)){A':Value}{ats':List At} (ho:w2.ownsRow (C+1) tAt 2 A' ats'.length (rowAt ats')) (hn:∀k,A'.ownBlock=some k→Av.ownBlock=some k∨w.heap.size≤k) :
  ChR (w2.setCell ⟨C,4,none⟩ A') C name bv fv D A' Uv ds ats' us∧Below C w (w2.setCell ⟨C,4,none⟩ A'):=by
 have hS:=Chg.set w2 ⟨C,4,none⟩ A';have hCl:=h.hold.lt;have hz:(w2.setCell ⟨C,4,none⟩ A').heap.size=w2.heap.size:=by simp[World.setCell]
 refine⟨⟨(hc.holds (fun e=>by have:=(own_lt h.a e).1;omega) h.hold).set 4 _,hS.owns (hc.owns h.d (fun k hk e=>h.da k hk e)) (fun k hk e=>by have h1:=(own_lt h.d hk).1;have e:k=C:=e;omega),hS.owns ho (fun k hk e=>by have h1:=(own_lt ho hk).1;have e:k=C:=e;omega),hS.owns (hc.owns h.u (fun k hk e=>h.au k e hk)) (fun k hk e=>by have h1:=(own_lt h.u hk).1;have e:k=C:=e;omega),fun k hk e=>?_,h.du,fun k hk e=>?_⟩,?_⟩
 ·rcases hn k e with h1|h1
  ·exact h.da k hk h1
  ·have:=(own_lt h.d hk).2;omega
 ·rcases hn k hk with h1|h1
  ·exact h.au k h1 e
  ·have:=(own_lt h.u e).2;omega
 ·exact (hc.toBelow (by omega) (fun k hk=>by have:=(own_lt h.a hk).1;omega)).trans (hS.toBelow (by have:=hc.size;omega) (fun k hk=>Nat.le_of_eq hk.symm))
theorem ChR.set_u (h:ChR w C name bv fv D Av Uv ds ats us) (hc:Chg w w2 (fun k=>Uv.ownBlock=some k)){U':Value}{us':List ByteArray} (ho:w2.ownsRow (C+1) tTx 1 U' us'.length (rowTx us')) (hn:∀k,U'.ownBlock=some k→Uv.ownBlock=some k∨w.heap.size≤k) :
  ChR (w2.setCell ⟨C,5,none⟩ U') C name bv fv D Av U' ds ats us'∧Below C w (w2.setCell ⟨C,5,none⟩ U'):=by
 have hS:=Chg.set w2 ⟨C,5,none⟩ U';have hCl:=h.hold.lt;have hz:(w2.setCell ⟨C,5,none⟩ U').heap.size=w2.heap.size:=by simp[World.setCell]
 refine⟨⟨(hc.holds (fun e=>by have:=(own_lt h.u e).1;omega) h.hold).set 5 _,hS.owns (hc.owns h.d (fun k hk e=>h.du k hk e)) (fun k hk e=>by have h1:=(own_lt h.d hk).1;have e:k=C:=e;omega),hS.owns (hc.owns h.a (fun k hk e=>h.au k hk e)) (fun k hk e=>by have h1:=(own_lt h.a hk).1;have e:k=C:=e;omega),hS.owns ho (fun k hk e=>by have h1:=(own_lt ho hk).1;have e:k=C:=e;omega),h.da,fun k hk e=>?_,fun k hk e=>?_⟩,?_⟩
 ·rcases hn k e with h1|h1
  ·exact h.du k hk h1
  ·have:=(own_lt h.d hk).2;omega
 ·rcases hn k e with h1|h1
  ·exact h.au k hk h1
  ·have:=(own_lt h.a hk).2;omega
 ·exact (hc.toBelow (by omega) (fun k hk=>by have:=(own_lt h.u hk).1;omega)).trans (hS.toBelow (by have:=hc.size;omega) (fun k hk=>Nat.le_of_eq hk.symm))
end
def ChAt (w:World) (B:Nat) (v:Value) (c:Ch):Prop :=
 ∃bv dv fv av uv,v=.agg #[.string c.name,bv,dv,fv,av,uv]∧BlocksAt w B bv c.blocks∧DiagsAt w B dv c.diags∧TxS w (· < B) fv c.files∧AtS w (· < B) av c.attrs∧TxS w (· < B) uv c.unset
theorem opens_any (x:Bl) (kv:Value×Value) (w:World):Calls Tryz.prog 18 #[.agg (blCells x kv).toArray] w fun e w'=>e=.returned (.bool (opensB x))∧Below w.heap.size w w':=by
 obtain⟨k1,k2⟩:=kv;have e:opensB x=(((x.kind:Int)==1)&&((x.level:Int)==1)):=by
  unfold opensB;rw[Bool.eq_iff_iff];simp;omega
 have HE:=Lib.hid e;clear e;obtain⟨a,ha⟩:∃a,((x.kind:Int)==1)=a:=⟨_,rfl⟩;obtain⟨b,hb⟩:∃b,((x.level:Int)==1)=b:=⟨_,rfl⟩;have HA:=hidH2 ha hb;unfold blCells;generalize (x.kind:Int)=kk at *;generalize (x.level:Int)=ll at *;cases a<;>cases b <;>
 ·go_enter Tryz.func18,Tryz.ntmps18
  go_wp2
  go_ret
  refine⟨?_,(Below.refl _ _).alloc (Nat.le_refl _) _⟩;rw[HE.out,HA.out.1,HA.out.2];rfl
end Go.Proofs.YtkkebmciiiajeaaGreatDoor
namespace Go.Bd
open Go.RowKit Go.Proofs.YtkkebmciiiajeaaGreatDoor
def twoZ (l:List (ByteArray×ByteArray)):Nat:=l.length+(l.map fun f=>f.1.size+f.2.size).sum
theorem twoZ_take {l:List (ByteArray×ByteArray)}{k:Nat}{f:ByteArray×ByteArray} (h:l[k]? = some f):l.length+((l.take (k+1)).map fun f=>f.1.size+f.2.size).sum=l.length+((l.take k).map fun f=>f.1.size+f.2.size).sum+(f.1.size+f.2.size):=by
 rw[List.take_add_one,h,List.map_append,List.sum_append];simp;omega
theorem twoZ_mem:∀{l:List (ByteArray×ByteArray)}{f:ByteArray×ByteArray},f∈l→f.1.size+f.2.size+1≤twoZ l
 | [],f,h=>by cases h
 | x::l,f,h=>by
  have e:twoZ (x::l)=(x.1.size+x.2.size)+1+twoZ l:=by unfold twoZ;simp;omega
  rw[e]
  rcases List.mem_cons.1 h with rfl|h
  ·omega
  ·have:=twoZ_mem h;omega
theorem halfs_succ:∀(k n:Nat),halfs (k+1) n=halfs k n*3 / 2
 | 0,n=>rfl
 | k+1,n=>by
  have ih:=halfs_succ k (n*3 / 2)
  show halfs (k+1) (n*3 / 2)=_
  rw[ih];rfl
theorem cntB_short (w:Bs) (hw:0<w.length):∀l:Bs,l.length<w.length→cntB w l=0
 | [],_=>rfl
 | c::l,h=>by
  have ih:=cntB_short w hw l (by rw[List.length_cons] at h;omega)
  show (if Lib.hasPrefix (c::l) w then 1 else 0)+cntB w l=0
  rw[ih,if_neg];intro hp;unfold Lib.hasPrefix at hp;have:=(List.isPrefixOf_iff_prefix.1 hp).length_le
  omega
theorem cntB_step (w:Bs) (l:Bs) (i:Nat) (h:i<l.length):cntB w (l.drop i)=(if Lib.hasPrefix (l.drop i) w then 1 else 0)+cntB w (l.drop (i+1)):=by
 rw[List.drop_eq_getElem_cons h];rfl
theorem pre_take (l w:Bs) (h:w.length≤l.length):Lib.hasPrefix l w=decide (l.take w.length=w):=by
 unfold Lib.hasPrefix;rw[Bool.eq_iff_iff,List.isPrefixOf_iff_prefix,decide_eq_true_eq,List.prefix_iff_eq_take];exact⟨fun h=>h.symm,fun h=>h.symm⟩
end Go.Bd
namespace Go.Proofs.YtkkebmciiiajeaaGreatDoor
open Go.RowKit Go.Bd
theorem sourcesSize_any {w:World}{S:Nat→Prop}{v:Value}{l:List (ByteArray×ByteArray)} (h:TwoS w S v l) (hS:∀k,S k→k<w.heap.size) (hl:twoZ l≤1048576) :
  Calls Tryz.prog 13 #[v] w fun e w'=>e=.returned (.int .i64 (twoZ l:Int))∧Below w.heap.size w w':=by
 obtain⟨A,c,rfl,hc,k1⟩:=h;have H1:=hidH2 k1 hS;obtain⟨m,hm⟩:∃m,l.length=m:=⟨_,rfl⟩;have HL:Hid (∀k,k≤m→m+((l.take k).map fun f=>f.1.size+f.2.size).sum≤1048576):=Lib.hid (fun k _=>by
  have:=sum_take_le (l.map fun f=>f.1.size+f.2.size) k
  unfold twoZ at hl;rw[←List.map_take] at this;omega)
 have hml:m≤1048576:=by unfold twoZ at hl;omega
 have HZ:Hid (twoZ l=m+(l.map fun f=>f.1.size+f.2.size).sum):=Lib.hid (by unfold twoZ;omega);rw[hm] at hc ⊢;have HN:=Lib.hid hm;clear hm k1 hl hS
 go_enter Tryz.func13,Tryz.ntmps13
 go_wp2_with fail
 go_loopg [3,4] m (fun q nv iv wr=>∃k n:Nat,k+q=m∧iv=.int .i64 (k:Int)∧nv=.int .i64 (n:Int)∧n≤1048576∧Hid (n=m+((l.take k).map fun f=>f.1.size+f.2.size).sum∧Below w.heap.size w wr))
 case atStart=>exact⟨0,m,by omega,rfl,rfl,hml,Lib.hid ⟨by simp,Below.refl _ _⟩⟩
 case round =>
  obtain⟨k,n,hk,rfl,rfl,hn,HR⟩:=hrel
  by_cases hlt:k<m
  ·obtain⟨f,hf⟩:∃f,l[k]? = some f:=⟨_,List.getElem?_eq_getElem (by rw[HN.out];exact hlt)⟩;obtain⟨b,off,rfl,_,x0,x1⟩:=H1.out.1 k f hf;have e:∀{p:Addr} {z:Value},w.cell? p=some z→wr.cell? p=some z:=fun {p z} h=>(HR.out.2.cell (World.block_lt_of_cell? w _ h)).trans h
   replace x0:=e x0
   replace x1:=e x1
   have hnx:=twoZ_take hf;rw[HN.out,←HR.out.1] at hnx;have hle:=HL.out (k+1) (by omega);rw[hnx] at hle;obtain⟨gx,hgx⟩:∃gx,f.2=gx:=⟨_,rfl⟩;obtain⟨nx,hnm⟩:∃nx,f.1=nx:=⟨_,rfl⟩;rw[hgx] at x1 hnx hle;rw[hnm] at x0 hnx hle;have HX:=Lib.hid hnx;have HD:=Lib.hid (HR.out.2.drew);clear e hf hgx hnm hnx
   go_wp2_with fail
   go_region
   all_goals (
    go_wp2_with fail
    go_roundg (gk-1)
    case measure=>omega
    case rel=>exact⟨k+1,n+(nx.size+gx.size),by omega,by go_num,by go_num,hle,Lib.hid ⟨HX.out.symm,by first|exact HD.out|exact HR.out.2⟩⟩)
  ·obtain rfl:k=m:=by omega
   have hfin:Hid (n=twoZ l):=Lib.hid (by
    have:=HR.out.1
    rw[List.take_of_length_le (by rw[HN.out];exact Nat.le_refl _)] at this;rw[HZ.out,this])
   go_wp2_with fail
   go_ret
   exact⟨by rw[←hfin.out];(first|done|rfl),HR.out.2⟩
theorem attrsSize_any {w:World}{S:Nat→Prop}{v:Value}{l:List (ByteArray×ByteArray)} (h:TwoS w S v l) (hS:∀k,S k→k<w.heap.size) (hl:twoZ l≤1048576) :
  Calls Tryz.prog 14 #[v] w fun e w'=>e=.returned (.int .i64 (twoZ l:Int))∧Below w.heap.size w w':=by
 obtain⟨A,c,rfl,hc,k1⟩:=h;have H1:=hidH2 k1 hS;obtain⟨m,hm⟩:∃m,l.length=m:=⟨_,rfl⟩;have HL:Hid (∀k,k≤m→m+((l.take k).map fun f=>f.1.size+f.2.size).sum≤1048576):=Lib.hid (fun k _=>by
  have:=sum_take_le (l.map fun f=>f.1.size+f.2.size) k
  unfold twoZ at hl;rw[←List.map_take] at this;omega)
 have hml:m≤1048576:=by unfold twoZ at hl;omega
 have HZ:Hid (twoZ l=m+(l.map fun f=>f.1.size+f.2.size).sum):=Lib.hid (by unfold twoZ;omega);rw[hm] at hc ⊢;have HN:=Lib.hid hm;clear hm k1 hl hS
 go_enter Tryz.func14,Tryz.ntmps14
 go_wp2_with fail
 go_loopg [3,4] m (fun q nv iv wr=>∃k n:Nat,k+q=m∧iv=.int .i64 (k:Int)∧nv=.int .i64 (n:Int)∧n≤1048576∧Hid (n=m+((l.take k).map fun f=>f.1.size+f.2.size).sum∧Below w.heap.size w wr))
 case atStart=>exact⟨0,m,by omega,rfl,rfl,hml,Lib.hid ⟨by simp,Below.refl _ _⟩⟩
 case round =>
  obtain⟨k,n,hk,rfl,rfl,hn,HR⟩:=hrel
  by_cases hlt:k<m
  ·obtain⟨f,hf⟩:∃f,l[k]? = some f:=⟨_,List.getElem?_eq_getElem (by rw[HN.out];exact hlt)⟩;obtain⟨b,off,rfl,_,x0,x1⟩:=H1.out.1 k f hf;have e:∀{p:Addr} {z:Value},w.cell? p=some z→wr.cell? p=some z:=fun {p z} h=>(HR.out.2.cell (World.block_lt_of_cell? w _ h)).trans h
   replace x0:=e x0
   replace x1:=e x1
   have hnx:=twoZ_take hf;rw[HN.out,←HR.out.1] at hnx;have hle:=HL.out (k+1) (by omega);rw[hnx] at hle;obtain⟨gx,hgx⟩:∃gx,f.2=gx:=⟨_,rfl⟩;obtain⟨nx,hnm⟩:∃nx,f.1=nx:=⟨_,rfl⟩;rw[hgx] at x1 hnx hle;rw[hnm] at x0 hnx hle;have HX:=Lib.hid hnx;have HD:=Lib.hid (HR.out.2.drew);clear e hf hgx hnm hnx
   go_wp2_with fail
   go_region
   all_goals (
    go_wp2_with fail
    go_roundg (gk-1)
    case measure=>omega
    case rel=>exact⟨k+1,n+(nx.size+gx.size),by omega,by go_num,by go_num,hle,Lib.hid ⟨HX.out.symm,by first|exact HD.out|exact HR.out.2⟩⟩)
  ·obtain rfl:k=m:=by omega
   have hfin:Hid (n=twoZ l):=Lib.hid (by
    have:=HR.out.1
    rw[List.take_of_length_le (by rw[HN.out];exact Nat.le_refl _)] at this;rw[HZ.out,this])
   go_wp2_with fail
   go_ret
   exact⟨by rw[←hfin.out];(first|done|rfl),HR.out.2⟩
theorem count_any (s t:ByteArray) (w:World) (hs:s.size≤1000000000) (ht:0<t.size) (ht2:t.size≤1000) :
  Calls Tryz.prog 30 #[.string s,.string t] w fun e w'=>e=.returned (.int .i64 (cntB t.data.toList s.data.toList:Int))∧Below w.heap.size w w':=by
 have hlen:=cntB_le t.data.toList s.data.toList;rw[size_lst] at hlen;have HL:=Lib.hid hlen;clear hlen
 go_enter Tryz.func30,Tryz.ntmps30
 go_wp2_with fail
 go_loopg [5,6] s.size (fun q nv iv wr=>∃k c:Nat,k+q=s.size∧iv=.int .i64 (k:Int)∧nv=.int .i64 (c:Int)∧c≤k∧Hid (c+cntB t.data.toList (s.data.toList.drop k)=cntB t.data.toList s.data.toList∧Below w.heap.size w wr))
 case atStart=>exact⟨0,0,by omega,rfl,rfl,Nat.le_refl _,Lib.hid ⟨by simp,Below.refl _ _⟩⟩
 case round =>
  obtain⟨k,c,hk,rfl,rfl,hc,HR⟩:=hrel
  by_cases hlt:k+t.size≤s.size
  ·have h1:=cntB_step t.data.toList s.data.toList k (by rw[size_lst];omega);have h2:=pre_take (s.data.toList.drop k) t.data.toList (by rw[List.length_drop,size_lst,size_lst];omega);obtain⟨sub,hsub⟩:∃sub,s.extract k (k+t.size)=sub:=⟨_,rfl⟩;have hsl:sub.data.toList=(s.data.toList.drop k).take t.data.toList.length:=by
    rw[←hsub,ext_lst,size_lst,List.drop_take,Nat.add_sub_cancel_left]
   rw[←hsl] at h2;have hE:=toL_eq sub t;have hd2:decide (sub.data.toList=t.data.toList)=decide (sub=t):=by
    rw[Bool.eq_iff_iff,decide_eq_true_eq,decide_eq_true_eq];constructor
    ·intro h;cases sub;cases t;simp at h;rw[h]
    ·intro h;rw[h]
   rw[hd2] at h2;obtain⟨d,hd⟩:∃d,decide (sub=t)=d:=⟨_,rfl⟩;rw[hd] at hE h2;rw[h2] at h1;have HS:=hidH2 hsub h1;clear h1 h2 hsl hd2 hd;have hi1:((k:Int)+(t.size:Int)≤(s.size:Int)):=by omega
   have e1:IntKind.i64.wrap ((k:Int)+(t.size:Int))=(k:Int)+(t.size:Int):=IntWalk.i64_in _ (by omega);have e2:((k:Int)+(t.size:Int)).toNat=k+t.size:=by omega
   have e3:IntKind.i64.wrap ((c:Int)+1)=(c:Int)+1:=IntWalk.i64_in _ (by omega);have e4:IntKind.i64.wrap ((k:Int)+1)=(k:Int)+1:=IntWalk.i64_in _ (by omega);have e5:¬((k:Int)+(t.size:Int)<0):=by omega
   have e6:¬((k:Int)+(t.size:Int)<(k:Int)):=by omega
   cases d
   ·go_wp2_with fail
    go_roundg (gk-1)
    case measure=>omega
    case rel =>
     have h:=HS.out.2;simp only[Bool.false_eq_true,if_false] at h;exact⟨k+1,c,by omega,by go_num,by go_num,by omega,Lib.hid ⟨by have:=HR.out.1;omega,HR.out.2⟩⟩
   ·go_wp2_with fail
    go_roundg (gk-1)
    case measure=>omega
    case rel =>
     have h:=HS.out.2;simp only[if_true] at h;exact⟨k+1,c+1,by omega,by go_num,by go_num,by omega,Lib.hid ⟨by have:=HR.out.1;omega,HR.out.2⟩⟩
  ·have h0:=cntB_short t.data.toList (by rw[size_lst];exact ht) (s.data.toList.drop k) (by rw[List.length_drop,size_lst,size_lst];omega);have HE:Hid (c=cntB t.data.toList s.data.toList):=Lib.hid (by have:=HR.out.1;omega);have e1:IntKind.i64.wrap ((k:Int)+(t.size:Int))=(k:Int)+(t.size:Int):=IntWalk.i64_in _ (by omega);have hi1:¬((k:Int)+(t.size:Int)≤(s.size:Int)):=by omega
   clear h0
   go_wp2_with fail
   go_ret
   exact⟨by rw[←HE.out];(first|done|rfl),HR.out.2⟩
def cntL (l:List ByteArray):Nat:=(l.map fun t=>cntB inclW t.data.toList).sum
def sumL (l:List ByteArray):Nat:=(l.map (·.size)).sum
theorem cntL_snoc (l:List ByteArray) (t:ByteArray):cntL (l++[t])=cntL l+cntB inclW t.data.toList:=by unfold cntL;simp
theorem sumL_snoc (l:List ByteArray) (t:ByteArray):sumL (l++[t])=sumL l+t.size:=by unfold sumL;simp
theorem sumL_take (l:List ByteArray) (k:Nat):sumL (l.take k)≤sumL l:=by
 unfold sumL;have:=sum_take_le (l.map (·.size)) k
 rwa [←List.map_take] at this
theorem cntL_le:∀l:List ByteArray,cntL l≤sumL l
 | []=>Nat.le_refl _
 | t::l=>by
  have h1:=cntL_le l;have h2:=cntB_le inclW t.data.toList;rw[size_lst] at h2;unfold cntL sumL at *;simp only[List.map_cons,List.sum_cons];omega
def SwP (n:Nat) (l:List ByteArray) (w:World) (e:Ending) (w':World):Prop:=∃g:Bool,e=.returned (.bool g)∧(g=false→∃b,n≤b∧halfs (cntL l) b≤60000)∧Below w.heap.size w w'
theorem swells_any {w:World}{S:Nat→Prop}{tv:Value}{l:List ByteArray} (h:TxS w S tv l) (hS:∀k,S k→k<w.heap.size) (hl:l.length≤100) (hz:sumL l≤8000) (n value:Nat) (hn:n≤8000) (hv:value≤8000) :
  Calls Tryz.prog 15 #[tv,.int .i64 (n:Int),.int .i64 (value:Int)] w (SwP n l w):=by
 obtain⟨A,c,rfl,hc,k1⟩:=h;obtain⟨m,hm⟩:∃m,l.length=m:=⟨_,rfl⟩;rw[hm] at hc hl ⊢;have hct:∀(t:ByteArray) W,t.size≤8000→Calls Tryz.prog 30 #[.string t,.string ⟨#[105,110,99,108,117,100,101]⟩] W (fun e w'=>e=.returned (.int .i64 (cntB inclW t.data.toList:Int))∧Below W.heap.size W w') ∧
   Calls Tryz.prog 30 #[.string t,.string ⟨#[123]⟩] W (fun e w'=>(∃c:Nat,c≤t.size∧e=.returned (.int .i64 (c:Int)))∧Below W.heap.size W w') ∧
   Calls Tryz.prog 30 #[.string t,.string ⟨#[115,101,116]⟩] W (fun e w'=>(∃c:Nat,e=.returned (.int .i64 (c:Int)))∧Below W.heap.size W w'):=fun t W hts=>by
  refine⟨count_any t ⟨#[105,110,99,108,117,100,101]⟩ W (by omega) (by decide) (by decide),?_,?_⟩
  ·refine (count_any t ⟨#[123]⟩ W (by omega) (by decide) (by decide)).mono ?_;rintro e w' ⟨rfl,hb⟩;have:=cntB_le [123] t.data.toList
   rw[size_lst] at this;exact⟨⟨_,this,rfl⟩,hb⟩
  ·refine (count_any t ⟨#[115,101,116]⟩ W (by omega) (by decide) (by decide)).mono ?_;rintro e w' ⟨rfl,hb⟩;exact⟨⟨_,rfl⟩,hb⟩
 have hsum:∀k t,l[k]? = some t→sumL (l.take k)+t.size≤8000∧cntL (l.take (k+1))=cntL (l.take k)+cntB inclW t.data.toList:=fun k t hk=>by
  have e:l.take (k+1)=l.take k++[t]:=by rw[List.take_add_one,hk];rfl
  have h1:=sumL_take l (k+1);rw[e,sumL_snoc] at h1;rw[e,cntL_snoc];exact⟨by omega,rfl⟩
 have hcb:∀k,cntL (l.take k)≤8000:=fun k=>Nat.le_trans (cntL_le _) (Nat.le_trans (sumL_take l k) hz)
 have HH:=hidH6 k1 hS hct hsum hm hcb;clear k1 hS hct hsum hm hcb
 go_enter Tryz.func15,Tryz.ntmps15
 go_wp2_with fail
 go_loopg [2,7,8,9] m (fun q vv iv bv kv wr=>∃k v b:Nat,k+q=m∧kv=.int .i64 (k:Int)∧vv=.int .i64 (v:Int)∧bv=.int .i64 (b:Int)∧iv=.int .i64 (cntL (l.take k):Int)∧v≤8000∧b≤8000∧Hid (b≤sumL (l.take k)∧Below w.heap.size w wr))
 case atStart=>exact⟨0,value,0,by omega,rfl,rfl,rfl,rfl,hv,by omega,Lib.hid ⟨Nat.zero_le _,Below.refl _ _⟩⟩
 case round =>
  obtain⟨k,v,b,hk,rfl,rfl,rfl,rfl,hvb,hbb,HR⟩:=hrel
  by_cases hlt:k<m
  ·obtain⟨t,ht⟩:∃t,l[k]? = some t:=⟨_,List.getElem?_eq_getElem (by have:=HH.out.2.2.2.2.1;omega)⟩;obtain⟨g,off,rfl,hSg,c0⟩:=HH.out.1 k t ht;have hgl:=HH.out.2.1 g hSg;have q0:=(HR.out.2.cell (p:=⟨g,off+k,none⟩) hgl).trans c0;obtain⟨hs1,hs2⟩:=HH.out.2.2.2.1 k t ht;have hsk:sumL (l.take (k+1))=sumL (l.take k)+t.size:=by rw[List.take_add_one,ht];exact sumL_snoc _ _
   have hcl:=cntB_le inclW t.data.toList;rw[size_lst] at hcl;have hk8:=HH.out.2.2.2.2.2 k;have hb8:=HR.out.1;obtain⟨ck,hck⟩:∃ck,cntL (l.take k)=ck:=⟨_,rfl⟩;obtain⟨ct,hct⟩:∃ct,cntB inclW t.data.toList=ct:=⟨_,rfl⟩;have hC:=HH.out.2.2.1 t;rw[hct] at hs2 hcl hC;rw[hck] at hs2 hk8 ⊢;have e1:IntKind.i64.wrap ((ck:Int)+(ct:Int))=(ck:Int)+(ct:Int):=IntWalk.i64_in _ (by omega);have HT:=hidH6 hC hs2 hs1 hsk hgl hb8;clear ht hSg c0 hs1 hs2 hck hct hC hsk hb8
   go_wp2_with fail
   refine (HT.out.1 wr (by have:=HT.out.2.2.1;omega)).1.mono ?_;rintro e w2 ⟨rfl,hb2⟩;have q2:=(hb2.cell (p:=⟨g,off+k,none⟩) (Nat.lt_of_lt_of_le HT.out.2.2.2.2.1 HR.out.2.size)).trans q0;have hw2:=HR.out.2.trans (hb2.mono HR.out.2.size);have HW2:=Lib.hid hw2;clear hw2 hb2
   go_wp2_with fail
   refine (HT.out.1 w2 (by have:=HT.out.2.2.1;omega)).2.1.mono ?_;rintro e w3 ⟨⟨bc,hbc,rfl⟩,hb3⟩;have q3:=(hb3.cell (p:=⟨g,off+k,none⟩) (Nat.lt_of_lt_of_le HT.out.2.2.2.2.1 HW2.out.size)).trans q2;have hw3:=HW2.out.trans (hb3.mono HW2.out.size);have HW3:=Lib.hid hw3;have hbb2:b+bc≤8000:=by have h1:=HT.out.2.2.1;have h2:=HT.out.2.2.2.2.2;omega
   have e2:IntKind.i64.wrap ((b:Int)+(bc:Int))=(b:Int)+(bc:Int):=IntWalk.i64_in _ (by omega);clear hw3 hb3
   go_wp2_with fail
   refine (HT.out.1 w3 (by have:=HT.out.2.2.1;omega)).2.2.mono ?_;rintro e w4 ⟨⟨sc,rfl⟩,hb4⟩;have HW4:=Lib.hid (HW3.out.trans (hb4.mono HW3.out.size));clear hb4
   by_cases hsc:0<sc
   ·have hsi:(0:Int)<(sc:Int):=by omega
    go_wp2_with fail
    go_roundg (gk-1)
    case measure=>omega
    case rel=>exact⟨k+1,1024,b+bc,by omega,by go_num,rfl,by go_num,by rw[HT.out.2.1];go_num,by omega,by omega,Lib.hid ⟨by have h1:=HT.out.2.2.2.1;have h2:=HT.out.2.2.2.2.2;omega,HW4.out⟩⟩
   ·have hsi:¬(0:Int)<(sc:Int):=by omega
    go_wp2_with fail
    go_roundg (gk-1)
    case measure=>omega
    case rel=>exact⟨k+1,v,b+bc,by omega,by go_num,rfl,by go_num,by rw[HT.out.2.1];go_num,hvb,by omega,Lib.hid ⟨by have h1:=HT.out.2.2.2.1;have h2:=HT.out.2.2.2.2.2;omega,HW4.out⟩⟩
  ·obtain rfl:k=m:=by omega
   have hlk:l.take k=l:=List.take_of_length_le (by rw[HH.out.2.2.2.2.1];exact Nat.le_refl _);have hcb:=HH.out.2.2.2.2.2 k;rw[hlk] at hcb ⊢;obtain⟨K,hK⟩:∃K,cntL l=K:=⟨_,rfl⟩;have HK:=Lib.hid hK;rw[hK] at hcb ⊢;obtain⟨mn,hmn⟩:∃mn:Nat,(if v≤n then v else n)=mn:=⟨_,rfl⟩;have hmn1:(min (v:Int) (n:Int))=(mn:Int):=by subst hmn;split<;>omega
   have hmn2:mn≤8000:=by subst hmn;split<;>omega
   have hpr:b*mn≤8000*8000:=Nat.mul_le_mul hbb hmn2;obtain⟨pr,hpr2⟩:∃pr,b*mn=pr:=⟨_,rfl⟩;have hpi:(b:Int)*(mn:Int)=(pr:Int):=by rw[←hpr2];exact (Int.natCast_mul b mn).symm
   rw[hpr2] at hpr;have e1:IntKind.i64.wrap (pr:Int)=(pr:Int):=IntWalk.i64_in _ (by omega);have e2:IntKind.i64.wrap ((n:Int)+(pr:Int))=(n:Int)+(pr:Int):=IntWalk.i64_in _ (by omega);obtain⟨wO,hwO⟩:∃x,x=wr:=⟨_,rfl⟩;subst hwO;clear hlk hK hmn hpr2 hk hlt
   go_wp2_with fail
   go_loopg [10,11] K (fun q nv iv wr=>∃i x:Nat,i+q=K∧iv=.int .i64 (i:Int)∧nv=.int .i64 (x:Int)∧x≤64008000∧Hid (x=halfs i (n+pr)∧Below w.heap.size w wr))
   case atStart=>exact⟨0,n+pr,by omega,rfl,by go_num,by omega,Lib.hid ⟨rfl,HR.out.2⟩⟩
   case round =>
    obtain⟨i,x,hi,rfl,rfl,hx,HR2⟩:=hrel
    by_cases hlt:i<K
    ·by_cases hx6:x≤60000
     ·have hx7:((x:Int)≤60000):=by omega
      have e3:IntKind.i64.wrap ((x:Int)*3)=(x:Int)*3:=IntWalk.i64_in _ (by omega);have hs:=halfs_succ i (n+pr);rw[←HR2.out.1] at hs;have HS:=Lib.hid hs;clear hs
      go_wp2_with fail
      go_roundg (gk-1)
      case measure=>omega
      case rel=>exact⟨i+1,x*3 / 2,by omega,by go_num,congrArg (Value.int .i64) (by omega),by omega,Lib.hid ⟨HS.out.symm,HR2.out.2⟩⟩
     ·have hx7:¬((x:Int)≤60000):=by omega
      have hx8:((60000:Int)<(x:Int)):=by omega
      go_wp2_with fail
      go_ret
      exact⟨true,rfl,(fun h=>by cases h),HR2.out.2⟩
    ·obtain rfl:i=K:=by omega
     by_cases hx6:x≤60000
     ·have hx7:((x:Int)≤60000):=by omega
      have hx8:¬((60000:Int)<(x:Int)):=by omega
      have HX:=Lib.hid hx6
      go_wp2_with fail
      go_ret
      refine⟨false,rfl,fun _=>⟨n+pr,by omega,?_⟩,HR2.out.2⟩;rw[HK.out,←HR2.out.1];exact HX.out
     ·have hx7:¬((x:Int)≤60000):=by omega
      have hx8:((60000:Int)<(x:Int)):=by omega
      go_wp2_with fail
      go_ret
      exact⟨true,rfl,(fun h=>by cases h),HR2.out.2⟩
def Fine (src:List Sc) (attrs:List At):Prop:=twoZ (src.map scP)+twoZ (attrs.map atP)≤8000∧src.length≤100∧∃b,rawS src≤b∧halfs (cntS src) b≤60000
def GrP (src:List Sc) (attrs:List At) (w:World) (e:Ending) (w':World):Prop:=∃g:Bool,e=.returned (.bool g)∧(g=false→Fine src attrs)∧Below w.heap.size w w'
theorem raw_two:∀src:List Sc,rawS src≤twoZ (src.map scP)
 | []=>Nat.zero_le _
 | x::l=>by
  have h:=raw_two l;have e1:rawS (x::l)=x.text.size+1+rawS l:=by simp[rawS]
  have e2:twoZ ((x::l).map scP)=(x.name.size+x.text.size)+1+twoZ (l.map scP):=by unfold twoZ scP;simp;omega
  rw[e1,e2];omega
theorem sum_two:∀src:List Sc,sumL (src.map (·.text))≤twoZ (src.map scP)
 | []=>Nat.zero_le _
 | x::l=>by
  have h:=sum_two l;have e1:sumL ((x::l).map (·.text))=x.text.size+sumL (l.map (·.text)):=by simp[sumL]
  have e2:twoZ ((x::l).map scP)=(x.name.size+x.text.size)+1+twoZ (l.map scP):=by unfold twoZ scP;simp;omega
  rw[e1,e2];omega
theorem cnt_src (src:List Sc):cntL (src.map (·.text))=cntS src:=by unfold cntL cntS;rw[List.map_map];rfl
theorem great_any {w:World}{S T:Nat→Prop}{sv av:Value}{src:List Sc}{attrs:List At} (hsc:ScS w S sv src) (hat:AtS w T av attrs) (hS:∀k,S k→k<w.heap.size) (hT:∀k,T k→k<w.heap.size) (hz1:twoZ (src.map scP)≤1048576) (hz2:twoZ (attrs.map atP)≤1048576) :
  Calls Tryz.prog 5 #[sv,av] w (GrP src attrs w):=by
 have hc1:=sourcesSize_any hsc hS hz1;have hc2:=fun W (hW:Below w.heap.size w W)=>attrsSize_any (TwoS.below hat hW) (fun k hk=>Nat.lt_of_lt_of_le (hT k hk) hW.size) hz2
 have hl1:src.length≤1048576:=by unfold twoZ at hz1;rw[List.length_map] at hz1;omega
 have hl2:attrs.length≤1048576:=by unfold twoZ at hz2;rw[List.length_map] at hz2;omega
 have hr:=raw_two src;have hs:=sum_two src;have hat2:∀a∈attrs,a.value.size≤twoZ (attrs.map atP):=fun a ha=>by have:=twoZ_mem (List.mem_map_of_mem (f:=atP) ha);unfold atP at this;dsimp only at this;unfold atP;omega
 obtain⟨As,cs,hsv,hscc,k1⟩:=hsc;obtain⟨Aa,ca,hav,hacc,k2⟩:=hat;rw[List.length_map] at hsv hav hscc hacc;obtain⟨m,hm⟩:∃m,src.length=m:=⟨_,rfl⟩;obtain⟨m2,hm2⟩:∃m2,attrs.length=m2:=⟨_,rfl⟩;rw[hm] at hsv hscc hl1;rw[hm2] at hav hacc hl2;subst hsv hav;obtain⟨n1,hn1⟩:∃n1,twoZ (src.map scP)=n1:=⟨_,rfl⟩;obtain⟨n2,hn2⟩:∃n2,twoZ (attrs.map atP)=n2:=⟨_,rfl⟩;rw[hn1] at hz1 hc1 hr hs;rw[hn2] at hz2 hc2 hat2;have HH:=Lib.hid (And.intro hc1 (And.intro hc2 (And.intro k1 (And.intro k2 (And.intro hS (And.intro hT (And.intro hm (And.intro hm2 (And.intro hn1 (And.intro hn2 (And.intro hr (And.intro hs hat2))))))))))));have e0:IntKind.i64.wrap ((n1:Int)+(n2:Int))=(n1:Int)+(n2:Int):=IntWalk.i64_in _ (by omega);clear hc1 hc2 k1 k2 hS hT hm hm2 hn1 hn2 hr hs hat2
 go_enter Tryz.func5,Tryz.ntmps5
 go_wp2_with fail
 refine HH.out.1.mono ?_;rintro e w1 ⟨rfl,hb1⟩;have HB1:=Lib.hid hb1;clear hb1
 go_wp2_with fail
 refine (HH.out.2.1 w1 HB1.out).mono ?_;rintro e w2 ⟨rfl,hb2⟩;have HB2:=Lib.hid (HB1.out.trans (hb2.mono HB1.out.size));clear hb2
 by_cases hbig:8000<n1+n2
 ·have hbi:(8000:Int)<(n1:Int)+(n2:Int):=by omega
  go_wp2_with fail
  go_ret
  exact⟨true,rfl,(fun h=>by cases h),HB2.out⟩
 ·have hbi:¬(8000:Int)<(n1:Int)+(n2:Int):=by omega
  by_cases hmm:100<m
  ·have hmi:(100:Int)<(m:Int):=by omega
   go_wp2_with fail
   go_ret
   exact⟨true,rfl,(fun h=>by cases h),HB2.out⟩
  ·have hmi:¬(100:Int)<(m:Int):=by omega
   obtain⟨i2,hi2,hx0,hx1,hx2⟩:=info_parts txA_info;have HI2:=hidH4 hi2 hx0 hx1 hx2;clear hi2 hx0 hx1 hx2
   go_wp2_with fail
   go_loopg [6,7] m (fun q tv iv wr=>∃(k:Nat) (A:Option Addr) (c:Nat),k+q=m∧iv=.int .i64 (k:Int)∧tv=.slice A k c∧Hid (wr.ownsRow w.heap.size 9 1 (.slice A k c) k (rowTx ((src.map (·.text)).take k))∧Below w.heap.size w wr))
   case atStart=>exact⟨0,none,0,by omega,rfl,rfl,Lib.hid ⟨own_nil _ _ _ _,HB2.out⟩⟩
   case round =>
    obtain⟨k,A,c,hk,rfl,rfl,HR⟩:=hrel
    by_cases hlt:k<m
    ·obtain⟨s,hs⟩:∃s,src[k]? = some s:=⟨_,List.getElem?_eq_getElem (by have:=HH.out.2.2.2.2.2.2.1;omega)⟩;obtain⟨g,off,rfl,hSg,_,c1⟩:=HH.out.2.2.1 k (scP s) (by rw[List.getElem?_map,hs];rfl);have q1:=(HR.out.2.cell (p:=⟨g,off+k*2+1,none⟩) (HH.out.2.2.2.2.1 g hSg)).trans c1;unfold scP at q1;dsimp only at q1;have htk:(src.map (·.text)).take (k+1)=(src.map (·.text)).take k++[s.text]:=by rw[List.take_add_one,List.getElem?_map,hs];rfl
     obtain⟨tx,htx⟩:∃tx,s.text=tx:=⟨_,rfl⟩;rw[htx] at q1 htk;have HT:=Lib.hid htk;have hsz:=HR.out.2.size;clear c1 hs hSg htk htx
     go_wp2_with (at_builtin;refine wpList_append_lies _ rfl _ _ 30 rfl w.heap.size 9 i2 _ 1 16 txs_underA HI2.out.1 HI2.out.2.1 HI2.out.2.2.1 HI2.out.2.2.2 rfl (by omega) (.slice A k c) k (rowTx ((src.map (·.text)).take k)) (by rfl) (HR.out.1.alloc _) ⟨wr.heap.size,0,none⟩ 1 1 [.string tx] rfl rfl (World.news_of_block (cs:=#[.string tx]) (t:=9) (fr:=(0,0)) (heap_alloc_new wr _)) (by simp[Value.oneCell']) (by omega) (by unfold maxLen;omega) (by omega) (by simp;omega) (wr.heap.size+1) (by simp) ?_;intro g2 cap w10 ho10 hg10 hat10 hl10;have hC10:Chg wr w10 (fun b=>(Value.slice A k c).ownBlock=some b):=((Chg.refl wr _).alloc _).trans (Chg.grown hg10) (fun _ _ h=>h.symm);have H10:=hidH2 hC10 ho10;clear hC10 ho10 hat10 hg10 hl10)
     go_roundg (gk-1)
     case measure=>omega
     case rel =>
      refine⟨k+1,some ⟨g2,0,none⟩,cap,by omega,by go_num,rfl,Lib.hid ⟨?_,?_⟩⟩
      ·rw[HT.out];have er:rowTx ((src.map (·.text)).take k++[tx])=rowTx ((src.map (·.text)).take k)++[.string tx]:=by unfold rowTx;simp
       rw[er];exact H10.out.2
      ·exact HR.out.2.trans (H10.out.1.toBelow HR.out.2.size (fun b hb=>(own_lt HR.out.1 hb).1))
    ·obtain rfl:k=m:=by omega
     have hlen:(src.map (·.text)).length=k:=by rw[List.length_map];exact HH.out.2.2.2.2.2.2.1
     have hrow:=HR.out.1;rw[List.take_of_length_le (by rw[hlen];exact Nat.le_refl _)] at hrow;have HT:=hidH2 hrow hlen;obtain⟨wO,hwO⟩:∃x,x=wr:=⟨_,rfl⟩;subst hwO;clear hk hlt hrow hlen
     go_wp2_with fail
     go_loopg [8,9] m2 (fun q vv iv wr=>∃j v:Nat,j+q=m2∧iv=.int .i64 (j:Int)∧vv=.int .i64 (v:Int)∧v≤8000∧Hid (Below wO.heap.size wO wr))
     case atStart=>exact⟨0,0,by omega,rfl,rfl,by omega,Lib.hid (Below.refl _ _)⟩
     case round =>
      obtain⟨j,v,hj,rfl,rfl,hv,HR2⟩:=hrel
      by_cases hlt:j<m2
      ·obtain⟨a,ha⟩:∃a,attrs[j]? = some a:=⟨_,List.getElem?_eq_getElem (by have:=HH.out.2.2.2.2.2.2.2.1;omega)⟩;obtain⟨g,off,rfl,hSg,_,c1⟩:=HH.out.2.2.2.1 j (atP a) (by rw[List.getElem?_map,ha];rfl);have hgl:=HH.out.2.2.2.2.2.1 g hSg;have q1:=(HR2.out.cell (p:=⟨g,off+j*2+1,none⟩) (Nat.lt_of_lt_of_le hgl HR.out.2.size)).trans ((HR.out.2.cell (p:=⟨g,off+j*2+1,none⟩) hgl).trans c1);unfold atP at q1;dsimp only at q1;have hvs:=HH.out.2.2.2.2.2.2.2.2.2.2.2.2 a (List.mem_of_getElem? ha);obtain⟨tx,htx⟩:∃tx,a.value=tx:=⟨_,rfl⟩;rw[htx] at q1 hvs;obtain⟨mx,hmx⟩:∃mx:Nat,(if v≤tx.size then tx.size else v)=mx:=⟨_,rfl⟩;have hm1:(max (v:Int) (tx.size:Int))=(mx:Int):=by subst hmx;split<;>omega
       have hm3:mx≤8000:=by subst hmx;split<;>omega
       clear hmx ha hSg c1 htx hgl
       go_wp2_with fail
       go_roundg (gk-1)
       case measure=>omega
       case rel=>exact⟨j+1,mx,by omega,by go_num,rfl,hm3,HR2⟩
      ·obtain rfl:j=m2:=by omega
       have hTx:TxS wr (fun b=>b<wr.heap.size) (.slice A k c) (src.map (·.text)):=TxS.own ((Chg.below HR2.out (fun _=>False)).owns HT.out.1 (fun _ _ h=>h)) HT.out.2.symm (fun b hb=>Nat.lt_of_lt_of_le (own_lt HT.out.1 hb).2 HR2.out.size);have hSw:=swells_any hTx (fun _ h=>h) (by rw[HT.out.2];omega) (Nat.le_trans HH.out.2.2.2.2.2.2.2.2.2.2.2.1 (by omega)) (n1+n2) v (by omega) hv;have hnn:((n1+n2:Nat):Int)=(n1:Int)+(n2:Int):=by omega
       rw[hnn] at hSw;have HS:=Lib.hid hSw;clear hTx hSw hnn hj hlt
       go_wp2_with fail
       refine HS.out.mono ?_;intro e w9 hP;unfold SwP at hP;obtain⟨gb,rfl,hgb,hb9⟩:=hP;have H9:=hidH2 hgb hb9;clear hgb hb9
       go_wp2_with fail
       go_ret
       refine⟨gb,rfl,fun hg=>?_,HR.out.2.trans ((HR2.out.trans (H9.out.2.mono HR2.out.size)).mono HR.out.2.size)⟩;obtain⟨b,hb1,hb2⟩:=H9.out.1 hg;refine⟨by rw[HH.out.2.2.2.2.2.2.2.2.1,HH.out.2.2.2.2.2.2.2.2.2.1];omega,by rw[HH.out.2.2.2.2.2.2.1];omega,b,?_,?_⟩
       ·have:=HH.out.2.2.2.2.2.2.2.2.2.2.1;omega
       ·rw[←cnt_src];exact hb2
end Go.Proofs.YtkkebmciiiajeaaGreatDoor
namespace Go.Bd
open Go.RowKit Go.Proofs.YtkkebmciiiajeaaGreatDoor
end Go.Bd
namespace Go.Proofs.YtkkebmciiiajeaaGreatDoor
open Go.RowKit Go.Bd
end Go.Proofs.YtkkebmciiiajeaaGreatDoor
