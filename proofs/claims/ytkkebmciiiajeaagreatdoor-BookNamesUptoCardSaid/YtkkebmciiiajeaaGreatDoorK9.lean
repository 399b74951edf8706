/-
  What the chapter's laws share, part 9: plain facts, memory, and walks of functions. Its conditions: those that each theorem names.
-/
import Derived.Maps.OwnSet
import Derived.StringKeys
import Derived.Carry
import Derived.Test.YtkkebmciiiajeaaGreatDoorK0
import Derived.Test.YtkkebmciiiajeaaGreatDoorK1
import Derived.Test.YtkkebmciiiajeaaGreatDoorK7
import Derived.Test.YtkkebmciiiajeaaGreatDoorK8
set_option linter.unusedSimpArgs false
set_option linter.unusedVariables false
set_option maxHeartbeats 16000000
set_option maxRecDepth 100000
namespace Go.Proofs.YtkkebmciiiajeaaGreatDoor
open Go.RowKit Go.Bd
theorem cel_info:(Tryz.prog.info? 203).map (fun i=>(i.zero,i.size,i.bytes))=some (some (.agg #[.slice none 0 0]),1,24):=by kernel_rfl
theorem rwr_info:(Tryz.prog.info? 201).map (fun i=>(i.zero,i.size,i.bytes))=some (some (.agg #[.slice none 0 0]),1,24):=by kernel_rfl
def cellF (x:Ln) (t:ByteArray):List Dg:=(faultsOf t.data.toList).map (dgOf x.file x.no t)
theorem table_any {w:World}{O F L:Nat→Prop}{rb:Nat}{lv:Value}{pos:Nat}{bv:Value}{bs:List Bl}{dv:Value}{ds:List Dg} (h:Rdr w O F rb lv pos bv bs dv ds){ls:List Ln} (hL:LinesAt w L lv ls) (hLO:∀k,L k→¬O k) (hLl:∀k,L k→k<w.heap.size)
  (hsz:∀x∈ls,x.text.size≤100000000) (hp:pos≤ls.length) (hn:ls.length≤1000000) (f t:ByteArray) (no:Int) (s:ByteArray) (hs:s.size≤100000000) (hs4:4≤s.size) {m:Int} (hm:Glob m w) (h3:∀k,O k→3≤k)
  (hwt:wtX (ls.drop pos)≤100000000) (hl:bs.length≤1000000000) (hd:ds.length+10+s.size+wtX (ls.drop pos)≤1000000000) :
  Calls Tryz.prog 78 #[.pointer (some ⟨rb,0,none⟩),.agg #[.string f,.int .i64 no,.string t],.string s] w fun e w'=>e=.returned (.tuple #[])∧∃O' F' bv' dv',Rdr w' O' F' rb lv (pos+(tableR f no s (ls.drop pos)).1) bv' (bs++(tableR f no s (ls.drop pos)).2.1) dv' (ds++(tableR f no s (ls.drop pos)).2.2)∧Turn w w' O F O' F':=by
 have hB1:Below w.heap.size w (w.alloc (.cells #[.string f,.int .i64 no,.string t] 98)):=(Below.refl _ w).alloc (Nat.le_refl _) _;have h1:=h.below hB1;have hX:=Holds.new w 98 #[.string f,.int .i64 no,.string t];have hm1:=hm.chg (Chg.below hB1 (fun _=>False)) (fun _ h=>h.elim);have hL1:=hL.chg (Chg.below hB1 (fun _=>False)) (fun _ _ h=>h);have hT1:Turn w (w.alloc (.cells #[.string f,.int .i64 no,.string t] 98)) O F O F:=⟨Chg.below hB1 O,fun _ h=>.inl h,fun _ h=>.inl h,fun _ h=>h⟩;have hLl1:∀k,L k→k<(w.alloc (.cells #[.string f,.int .i64 no,.string t] 98)).heap.size:=fun k hk=>by have:=hLl k hk;simp;omega
 obtain⟨n,hn1⟩:∃n,w.heap.size=n:=⟨_,rfl⟩;have hn3:3≤n:=hn1 ▸ hm.three;rw[hn1] at hX;obtain⟨W1,hW1⟩:∃W1,w.alloc (.cells #[.string f,.int .i64 no,.string t] 98)=W1:=⟨_,rfl⟩;rw[hW1] at h1 hX hm1 hL1 hLl1 hT1;have CU:=until_any h1 hL1 hLO hLl1 hsz hp hn 122 enter_table (fun t=>t==barsL) table1_any;obtain⟨kk,hkk⟩:∃kk,untilN (fun t=>t==barsL) (ls.drop pos)=kk:=⟨_,rfl⟩;have hkl:pos+kk≤ls.length:=by have:=untilN_le (fun t=>t==barsL) (ls.drop pos);rw[List.length_drop] at this;omega
 rw[hkk] at CU;obtain⟨mid,hmid⟩:∃mid,(ls.drop pos).take kk=mid:=⟨_,rfl⟩;have hml:mid.length=kk:=by rw[←hmid,List.length_take,List.length_drop];omega
 have hms:∀x∈mid,x.text.size≤100000000:=fun x hx=>hsz x (List.mem_of_mem_drop (List.mem_of_mem_take (hmid ▸ hx)))
 have hmw:wtX mid≤wtX (ls.drop pos):=by have:=wtX_split (ls.drop pos) kk;rw[hmid] at this;omega
 rw[hmid] at CU;obtain⟨RT,hRT⟩:∃RT,mid.flatMap rowT=RT:=⟨_,rfl⟩;obtain⟨RF,hRF⟩:∃RF,mid.flatMap rowF=RF:=⟨_,rfl⟩;have hRTl:RT.length≤1000000000:=by have:=rowTs_le mid;rw[hRT] at this;omega
 have hRFl:RF.length≤wtX mid:=hRF ▸ rowFs_le mid;obtain⟨D,hD⟩:∃D:List Dg,(if pos+kk<ls.length then [] else [⟨f,no,4,s⟩])=D:=⟨_,rfl⟩;obtain⟨P3,hP3⟩:∃P3:Nat,(if pos+kk<ls.length then pos+kk+1 else pos+kk)=P3:=⟨_,rfl⟩;obtain⟨E,hE⟩:∃E:List Dg,(if evenB (RT.map List.length)=true then [] else [⟨f,no,9,s⟩])=E:=⟨_,rfl⟩;obtain⟨T,hT⟩:∃T,tabT s=T:=⟨_,rfl⟩;have hG:tableR f no s (ls.drop pos)=(P3-pos,[titledB ⟨6,0,false,⟨#[]⟩,⟨#[]⟩,[],RT,⟨#[]⟩,0⟩ f no T],D++E++titledD f no T++RF):=by
  unfold tableR tabE tabR tabF tabN endN;rw[hkk,hmid,hRT,hRF,hT,hE,List.length_drop]
  by_cases hc:pos+kk<ls.length
  ·rw[if_pos hc] at hD hP3;rw[if_pos (by omega),if_pos (by omega),←hD,←hP3]
   congr 1;omega
  ·rw[if_neg hc] at hD hP3;rw[if_neg (by omega),if_neg (by omega),←hD,←hP3]
   congr 1;omega
 have hPP:pos+(P3-pos)=P3:=by rw[←hP3];split<;>omega
 rw[hG];simp only[];rw[hPP];have hDl:D.length≤1:=by rw[←hD];split<;>simp
 have hEl:E.length≤1:=by rw[←hE];split<;>simp
 have hTs:T.size≤s.size:=by
  rw[←hT];unfold tabT;rw[size_mk];have:=dropL_le (s.data.toList.drop 4)
  rw[List.length_drop,←size_list] at this;omega
 have htf:(faultsOf (titleB T.data.toList).1).length≤s.size:=by
  have h1:=faults_le (titleB T.data.toList).1;have h2:=titleB_le T.data.toList;rw[←size_list] at h2;omega
 have htd:(titledD f no T).length≤1+T.size:=titledD_le f no T;have hTd:dropL (s.extract 4 s.size).data.toList=T.data.toList:=by
  rw[←hT];unfold tabT;rw[strV_data,extract_list,List.take_of_length_le (by simp)]
 have hTv:∀W,Calls Tryz.prog 72 #[.string (s.extract 4 s.size),.string ⟨#[32,9]⟩] W fun e w'=>e=.returned (.string T)∧Below W.heap.size W w':=fun W=>by
  refine (strTrimL_any (s.extract 4 s.size) W (by rw[ByteArray.size_extract];omega)).mono ?_;rintro e w' ⟨he,hb⟩;refine⟨?_,hb⟩;rw[he,hTd];rfl
 have hnO:¬O n:=fun e=>by have:=h.ltO n e;omega
 have hmm:=hm1;have HX:=hidH4 hX hT1 hn1 hm1;have HL:=hidH3 hLl1 hLO hms;have HJ:=hidH4 hRT hRF hE hTv;clear h h1 hX hL hL1 hLl hLl1 hLO hB1 hT1 hkk hmid hsz hms hm hm1 hmm hG hPP hT hTd hTv hRT hRF hE
 go_enter Tryz.func78,Tryz.ntmps78
 go_wp2_with fail
 refine CU.mono ?_;clear CU;rintro e W2 ⟨v,rfl,hL2,hr2,ht2⟩
 (try rw[hn1])
 clear hW1 hn1;obtain⟨A,c,rfl,hcl⟩:∃A c,v=.slice A mid.length c∧mid.length≤c:=by
  obtain⟨A,c,h1,h2,_⟩:=hL2;exact⟨A,c,h1,h2⟩
 have hX2:=ht2.chg.holds hnO HX.out.1;obtain⟨d0,d1,d2⟩:=cells3 hX2;have hm2:=HX.out.2.2.2.chg ht2.chg h3;have HQ:=hidH5 hL2 hr2 (HX.out.2.1.trans ht2) hX2 hm2;have HW1:=Lib.hid ht2.chg.size
 by_cases hlt:pos+kk<ls.length
 focus
  have hdt:decide (pos+kk<ls.length)=true:=decide_eq_true hlt;rw[if_pos hlt] at hD hP3;rw[hdt];have p1:=hr2.hold.cell 1;have f1:=hr2.hold.free 1;simp at p1;have HS:Hid (Rdr (W2.setCell ⟨rb,1,none⟩ (.int .i64 ((pos+kk+1:Nat):Int))) O F rb lv P3 bv bs dv (ds++D)∧Turn w (W2.setCell ⟨rb,1,none⟩ (.int .i64 ((pos+kk+1:Nat):Int))) O F O F):=Lib.hid ⟨by rw[←hD,List.append_nil,←hP3];exact hr2.moved _,HQ.out.2.2.1.trans (hr2.turn _)⟩;clear hL2 hr2 ht2 hX2 hdt hm2
  go_wp2_with fail
  have hrO:=(HS.out.1).oR;have hLr:∀k,L k→¬k=rb:=fun k hk e=>HL.out.2.1 k hk (e ▸ hrO)
  have hX3:=HQ.out.2.2.2.1.far (p:=⟨rb,1,none⟩) (fun e=>hnO (e ▸ hrO)) (.int .i64 ((pos+kk+1:Nat):Int));have hL3:LinesAt (W2.setCell ⟨rb,1,none⟩ (.int .i64 ((pos+kk+1:Nat):Int))) L _ _:=HQ.out.1.chg (Chg.set W2 ⟨rb,1,none⟩ (.int .i64 ((pos+kk+1:Nat):Int))) hLr;have hm3:Glob m (W2.setCell ⟨rb,1,none⟩ (.int .i64 ((pos+kk+1:Nat):Int))):=HQ.out.2.2.2.2.chg (Chg.set W2 ⟨rb,1,none⟩ (.int .i64 ((pos+kk+1:Nat):Int))) (fun k hk=>by have e:k=rb:=hk;exact e ▸ h3 rb hrO);have hs3:W1.heap.size≤(W2.setCell ⟨rb,1,none⟩ (.int .i64 ((pos+kk+1:Nat):Int))).heap.size:=by have:=HW1.out;simp;omega
  have hsz3:W2.heap.size=(W2.setCell ⟨rb,1,none⟩ (.int .i64 ((pos+kk+1:Nat):Int))).heap.size:=by simp
  obtain⟨W3,hW3⟩:∃W3,W2.setCell ⟨rb,1,none⟩ (.int .i64 ((pos+kk+1:Nat):Int))=W3:=⟨_,rfl⟩;rw[hW3] at HS hX3 hL3 hs3 hsz3 hm3;rw[hsz3];have e1:((pos:Int)+(kk:Int)+1)=((pos+kk+1:Nat):Int):=by omega
  (try rw[e1])
  rw[hW3];clear hW3 hsz3 e1 d0 d1 d2 p1 f1 hD hP3 hlt hrO hLr;obtain⟨O1,dv1,hnO1,h31,HS⟩:∃(O1:Nat→Prop) (dv1:Value),¬O1 n∧(∀k,O1 k→3≤k)∧Hid (Rdr W3 O1 F rb lv P3 bv bs dv1 (ds++D)∧Turn w W3 O F O1 F):=⟨O,dv,hnO,h3,HS⟩
 rotate_left
 focus
  have hdt:decide (pos+kk<ls.length)=false:=decide_eq_false hlt;rw[if_neg hlt] at hD hP3;rw[hdt];have CF:=fault_any hr2 f t no 4 s (by omega);have e4:((4:Nat):Int)=4:=rfl;rw[e4] at CF;clear e4 hL2 hr2 ht2 hdt;have hn2:=hX2.lt
  go_wp2_with fail
  refine CF.mono ?_;clear CF;rintro e W3 ⟨rfl,O1,dv1,hr3,ht3⟩;have hnO1:¬O1 n:=ht3.offO hn2 hnO;have hX3:=ht3.chg.holds hnO HQ.out.2.2.2.1;have hL3:LinesAt W3 L _ _:=HQ.out.1.chg ht3.chg HL.out.2.1;have hm3:Glob m W3:=hm2.chg ht3.chg h3;have h31:∀k,O1 k→3≤k:=fun k hk=>(ht3.inO k hk).elim (h3 k) (fun e=>by have:=hm2.three;omega)
  have hs3:W1.heap.size≤W3.heap.size:=by have:=HW1.out;have:=ht3.chg.size;omega
  have HS:Hid (Rdr W3 O1 F rb lv P3 bv bs dv1 (ds++D)∧Turn w W3 O F O1 F):=Lib.hid ⟨by rw[←hD,←hP3];exact hr3,HQ.out.2.2.1.trans ht3⟩;clear hr3 ht3 d0 d1 d2 hX2 hD hP3 hlt hm2
  go_wp2_with fail
 rotate_left
 all_goals
  have hT0:=TabS.start W3;have hb4:Below W3.heap.size W3 ((W3.alloc (.cells #[.slice none 0 0,.int .i64 0,.slice none 0 0,.slice none 0 0] tR)).alloc (.cells (tabBlk (.slice none 0 0)) tBl)):=((Below.refl _ W3).alloc (Nat.le_refl _) _).alloc (by simp) _;have HG:=hidH5 hX3 hL3 hs3 hm3 h31;clear hX3 hL3 hs3 hm3 h31;obtain⟨B,hB⟩:∃B,W3.heap.size=B:=⟨_,rfl⟩;rw[hB] at hT0 hb4 ⊢;have HT0:=hidH2 hT0 hb4;have HBB:=Lib.hid hB;clear hT0 hb4 hB
  go_loopg [11,12,13,14,15,17,40] kk (fun q v11 v12 v13 v14 v15 v17 vi wr=>∃(k:Nat) (Ow Fw:Nat→Prop) (dvw rv:Value),k+q=kk∧vi=.int .i64 (k:Int)∧Hid (TabS wr B Ow Fw B dvw ((mid.take k).flatMap rowF) (B+1) rv ((mid.take k).flatMap rowT)∧Below B W3 wr∧((mid.take k).flatMap rowF=[]→dvw=.slice none 0 0)))
  case atStart=>exact⟨0,_,_,_,_,by omega,rfl,by have e:=HT0.out.1;simp only[List.take_zero,List.flatMap_nil];exact e,HT0.out.2,fun _=>rfl⟩
  case round =>
   obtain⟨k,Ow,Fw,dvw,rv,hk,rfl,HK⟩:=hrel;have hBw:B≤wr.heap.size:=by have:=HK.out.1.blk.lt;omega
   by_cases hlt:k<kk
   ·obtain⟨x,hx⟩:∃x,mid[k]? = some x:=⟨_,List.getElem?_eq_getElem (by omega)⟩;obtain⟨b,off,c1,hA,_,hb,l0,l1,l2⟩:=HG.out.2.1.at hx;obtain⟨rfl,rfl⟩:A=some ⟨b,off,none⟩∧c=c1:=by cases hA;exact⟨rfl,rfl⟩
    have hxs:=HL.out.2.2 x (List.mem_of_getElem? hx);have hbB:b<B:=by have:=HL.out.1 b hb;have:=HG.out.2.2.1;have:=HBB.out;omega
    replace l0:=(HK.out.2.1.cell (p:=⟨b,off+k*3,none⟩) hbB).trans l0
    replace l1:=(HK.out.2.1.cell (p:=⟨b,off+k*3+1,none⟩) hbB).trans l1
    replace l2:=(HK.out.2.1.cell (p:=⟨b,off+k*3+2,none⟩) hbB).trans l2
    have htkT:(mid.take (k+1)).flatMap rowT=(mid.take k).flatMap rowT++rowT x:=by rw[List.take_add_one,hx];simp
    have htkF:(mid.take (k+1)).flatMap rowF=(mid.take k).flatMap rowF++rowF x:=by rw[List.take_add_one,hx];simp
    have hdk:((mid.take k).flatMap rowF).length+(x.text.size+1)≤100000000:=by
     have h1:=rowFs_le (mid.take k);have h2:=wtX_split mid k;rw[List.drop_eq_getElem_cons (by omega)] at h2;have e:mid[k]'(by omega)=x:=by have:=List.getElem?_eq_getElem (show k<mid.length by omega);rw[hx] at this;exact (Option.some.inj this).symm
     rw[e,wtX] at h2;omega
    obtain⟨s1,hs1⟩:∃s1,tr x.text=s1:=⟨_,rfl⟩;have hs1l:s1.size≤x.text.size:=hs1 ▸ tr_le x.text;have hs1e:(trim x.text.data.toList=[])=(s1=⟨#[]⟩):=by
     rw[←hs1,eq_iff_iff];exact⟨fun h=>by unfold tr;rw[h],fun h=>by simpa [tr] using congrArg (fun b:ByteArray=>b.data.toList) h⟩
    have cc:∀W,Calls Tryz.prog 38 #[.agg #[.string x.file,.int .i64 x.no,.string x.text]] W fun e w'=>e=.returned (.string s1)∧Below W.heap.size W w':=fun W=>by
     rw[←hs1];exact counted_any x.file x.text x.no W hxs
    have HTK:=hidH5 htkT htkF hs1 hs1e hs1l;clear hA htkT htkF hx hs1 hs1e hs1l
    go_wp2_with fail
    refine (cc _).mono ?_;clear cc l0 l1 l2;rintro e w1 ⟨rfl,hb1⟩;have hba:Below wr.heap.size wr w1:=((Below.refl _ wr).alloc (Nat.le_refl _) _).trans (hb1.mono (by simp));have hTw:=HK.out.1.below hba;have hbw:=HK.out.2.1.trans (hba.mono hBw);have hXl:=(Holds.new wr 98 #[.string x.file,.int .i64 x.no,.string x.text]).below hb1 (by simp);have hlO:¬Ow wr.heap.size:=fun e=>by have:=HK.out.1.rd.ltO _ e;omega
    have hlF:¬Fw wr.heap.size:=fun e=>by have:=HK.out.1.rd.ltF _ e;omega
    have hlN:wr.heap.size≠B+1:=by have:=HK.out.1.blk.lt;omega
    have hlR:rv.ownBlock≠some wr.heap.size:=fun e=>by obtain⟨_,_,_,_,hrk⟩:=HK.out.1.rows.form;have:=(hrk _ e).2;omega
    have hmw1:Glob m w1:=HG.out.2.2.2.1.chg (Chg.below (by rw[HBB.out];exact hbw) (fun _=>False)) (fun _ h=>h.elim);obtain⟨lb,hlb⟩:∃lb,wr.heap.size=lb:=⟨_,rfl⟩;rw[hlb] at hXl hlO hlF hlN hlR;have hBl:B≤lb:=hlb ▸ hBw
    (try rw[hlb])
    obtain⟨c0,c1',c2⟩:=cells3 hXl;have HC:=hidH4 hTw hbw hXl hmw1;clear hba hTw hbw hXl hmw1 hb1 hlb
    by_cases he:s1=⟨#[]⟩
    ·have hnx:(mid.take (k+1)).flatMap rowT=(mid.take k).flatMap rowT∧(mid.take (k+1)).flatMap rowF=(mid.take k).flatMap rowF:=by
      have h0:trim x.text.data.toList=[]:=HTK.out.2.2.2.1 ▸ he;rw[HTK.out.1,HTK.out.2.1];unfold rowT rowF;rw[if_pos (.inl h0),if_pos h0];simp
     have HN:=Lib.hid hnx;clear hnx c0 c1' c2;subst he;go_wp2
     go_roundg (gk-1)
     case measure=>omega
     case rel=>exact⟨k+1,Ow,Fw,dvw,rv,by omega,by go_num,by rw[HN.out.1,HN.out.2];exact HC.out.1,HC.out.2.1,by rw[HN.out.2];exact HK.out.2.2⟩
    ·have hne:=ba_nonempty he;have h0:¬trim x.text.data.toList=[]:=fun e=>he (HTK.out.2.2.2.1 ▸ e)
     by_cases hbg:beginsB s1=false
     ·have RN:=row_none s1 w1 (by have:=HTK.out.2.2.2.2;omega) hbg;have hnx:(mid.take (k+1)).flatMap rowT=(mid.take k).flatMap rowT∧(mid.take (k+1)).flatMap rowF=(mid.take k).flatMap rowF++[⟨x.file,x.no,9,s1⟩]:=by
       rw[HTK.out.1,HTK.out.2.1];unfold rowT rowF;rw[HTK.out.2.2.1,if_pos (.inr hbg),if_neg h0,if_pos hbg];simp
      have HN:=Lib.hid hnx;clear hnx h0 hbg he
      go_wp2_with fail
      refine RN.mono ?_;clear RN;rintro e w2 ⟨rfl,hb2⟩;have hT2:=HC.out.1.below hb2;have hX2:=HC.out.2.2.1.below hb2 HC.out.2.2.1.lt;obtain⟨c0,c1',c2⟩:=cells3 hX2;have CF:=fault_any hT2.rd x.file x.text x.no 9 s1 (by omega);have e9:((9:Nat):Int)=9:=rfl;rw[e9] at CF;have hbw2:=HC.out.2.1.trans (hb2.mono (by have:=HC.out.1.blk.lt;omega));have HC2:=hidH2 hT2 hbw2;clear e9 hT2 hX2 hb2 hbw2
      go_wp2_with fail
      refine CF.mono ?_;clear CF;rintro e w3 ⟨rfl,O3,dv3,hr3,ht3⟩;have hT3:=HC2.out.1.turn hr3 ht3;have hbw3:=HC2.out.2.trans (ht3.chg.toBelow (by have:=HC2.out.1.blk.lt;omega) HC2.out.1.geO);have HC3:=hidH2 hT3 hbw3;clear hr3 ht3 hT3 hbw3;go_wp2
      go_roundg (gk-1)
      case measure=>omega
      case rel=>exact⟨k+1,O3,Fw,dv3,rv,by omega,by go_num,by rw[HN.out.1,HN.out.2];exact HC3.out.1,HC3.out.2,fun e=>by rw[HN.out.2] at e;simp at e⟩
     ·have hbg:beginsB s1=true:=by simpa using hbg
      have RS:=row_some s1 w1 m HC.out.2.2.2.1 (by have:=HTK.out.2.2.2.2;omega) hbg;obtain⟨cl,hcl2⟩:∃cl,rowOf s1=cl:=⟨_,rfl⟩;have hnx:(mid.take (k+1)).flatMap rowT=(mid.take k).flatMap rowT++[cl.map fun t=>spansOf t.data.toList]∧(mid.take (k+1)).flatMap rowF=(mid.take k).flatMap rowF++cl.flatMap (cellF x):=by
       rw[HTK.out.1,HTK.out.2.1];unfold rowT rowF;rw[HTK.out.2.2.1,hcl2,if_neg (fun e=>e.elim h0 (fun e=>by rw[hbg] at e;cases e)),if_neg h0,if_neg (by rw[hbg];simp)];exact⟨rfl,rfl⟩
      have hcs:=rowOf_sum s1;rw[hcl2] at RS hcs;have hcsum:((mid.take k).flatMap rowF).length+(cl.map (·.size)).sum≤100000000:=by have:=HTK.out.2.2.2.2;omega
      have hs1l:=HTK.out.2.2.2.2;have HN:=hidH2 hnx hcsum;have hcN:cl.length≤s1.size+1:=by
       rw[←hcl2];unfold rowOf dropEnd;have h1:=pieces_length ⟨(Lib.trimPrefix (trim s1.data.toList) [124]).toArray⟩;have h2:=Lib.countB_le bar (by decide) _ (⟨(Lib.trimPrefix (trim s1.data.toList) [124]).toArray⟩:ByteArray) (Nat.le_refl _);rw[size_mk] at h2;have h3:=trim_le s1.data.toList;rw[←size_list] at h3;have h4:(Lib.trimPrefix (trim s1.data.toList) [124]).length≤(trim s1.data.toList).length:=by unfold Lib.trimPrefix;split<;>simp
       split
       ·rw[List.length_take,List.length_map];omega
       ·rw[List.length_map];omega
      have hcz:∀t∈cl,t.size≤100000000:=fun t ht=>by
       have:t.size≤(cl.map (·.size)).sum:=le_sum_mem (List.mem_map.2 ⟨t,ht,rfl⟩)
       omega
      have HZ:=Lib.hid hcz;clear hnx hcz hcsum h0 hbg he hcl2;obtain⟨nc,hnc⟩:∃nc,cl.length=nc:=⟨_,rfl⟩;rw[hnc] at RS hcN;have HNC:=Lib.hid hnc;clear hnc
      go_wp2_with fail
      refine RS.mono ?_;clear RS;rintro e w2 ⟨v,rfl,hown,hb2⟩;obtain⟨TA,tc,rfl,htc⟩:=own_slice hown;have hT2:=HC.out.1.below hb2;have hX2:=HC.out.2.2.1.below hb2 HC.out.2.2.1.lt;have hbw2:=HC.out.2.1.trans (hb2.mono (by have:=HC.out.1.blk.lt;omega));have hl1:=HC.out.2.2.1.lt;have hs2:=hb2.size;have hcell:∀(j:Nat) t,cl[j]? = some t→∃tb,TA=some ⟨tb,0,none⟩∧w1.heap.size≤tb∧tb<w2.heap.size∧w2.cell? ⟨tb,j,none⟩=some (.string t):=fun j t hj=>by
       have hjl:=(List.getElem?_eq_some_iff.1 hj).1;obtain⟨g,cap,e,h1,h2,_⟩:=own_some hown (by have:=HNC.out;omega);injection e with e1 e2 e3
       subst e1 e3;exact⟨g,rfl,h1,h2,own_cell hown (by rw[List.getElem?_map,hj];rfl)⟩
      have hC0:=CelS.start hT2;have hT3:=hT2.below ((Below.refl _ w2).alloc (Nat.le_refl _) (.cells #[.slice none 0 0] tRo));have hX3:=hX2.alloc (.cells #[.slice none 0 0] tRo);have hbw3:Below B W3 (w2.alloc (.cells #[.slice none 0 0] tRo)):=hbw2.alloc (by omega) _;have hgO:¬Ow w2.heap.size:=fun e=>by have:=hT2.rd.ltO _ e;omega
      obtain⟨gb,hgb⟩:∃gb,w2.heap.size=gb:=⟨_,rfl⟩;rw[hgb] at hC0 hs2 hcell hgO;have hgl:lb<gb:=by omega
      have hBw1:B+1<w1.heap.size:=HC.out.1.blk.lt;have hcell3:∀(j:Nat) t,cl[j]? = some t→∃tb,TA=some ⟨tb,0,none⟩∧B+1<tb∧tb<gb∧¬Ow tb∧(w2.alloc (.cells #[.slice none 0 0] tRo)).cell? ⟨tb,j,none⟩=some (.string t):=fun j t hj=>by
       obtain⟨tb,h1,h2,h3,h4⟩:=hcell j t hj;exact⟨tb,h1,by omega,h3,fun e=>by have:=HC.out.1.rd.ltO _ e;omega,by rw[World.cell?_alloc_lt _ _ _ (by rw[hgb];exact h3)];exact h4⟩
      have hm3:Glob m (w2.alloc (.cells #[.slice none 0 0] tRo)):=HG.out.2.2.2.1.chg (Chg.below (by rw[HBB.out];exact hbw3) (fun _=>False)) (fun _ h=>h.elim);have hz3:(w2.alloc (.cells #[.slice none 0 0] tRo)).heap.size=gb+1:=by rw[World.size_alloc,hgb]
      go_wp2
      (try rw[hgb])
      have etr:tRo=201:=rfl;rw[etr] at hC0 hT3 hX3 hbw3 hcell3 hm3 hz3;obtain⟨W5,hW5⟩:∃W5,w2.alloc (.cells #[.slice none 0 0] 201)=W5:=⟨_,rfl⟩;rw[hW5] at hC0 hT3 hX3 hbw3 hcell3 hm3 hz3 ⊢;have H5:=hidH7 hT3 hC0 hX3 hbw3 hcell3 hm3 hz3;clear hC0 hT3 hX3 hbw3 hcell3 hcell hm3 hz3 hT2 hX2 hbw2 hown hb2 hW5 c0 c1' c2 etr;have HGB:=Lib.hid hgb;clear hgb;obtain⟨gO,hgO2⟩:∃q,q=gk:=⟨_,rfl⟩;subst hgO2;obtain⟨wO,hwO⟩:∃q,q=wr:=⟨_,rfl⟩;subst hwO
      go_loopg [17,61] nc (fun q vt vj wr=>∃(j:Nat) (O5 F5:Nat→Prop) (dv5 cv:Value),j+q=nc∧vj=.int .i64 (j:Int)∧Hid (TabS wr B O5 F5 B dv5 ((mid.take k).flatMap rowF++(cl.take j).flatMap (cellF x)) (B+1) rv ((mid.take k).flatMap rowT)∧CelS wr B O5 F5 (B+1) rv gb cv ((cl.take j).map fun t=>spansOf t.data.toList)∧Chg W5 wr (fun b=>Ow b∨b=gb)∧(∀b,O5 b→Ow b∨W5.heap.size≤b)∧(∀b,cv.ownBlock=some b→W5.heap.size≤b)∧((mid.take k).flatMap rowF++(cl.take j).flatMap (cellF x)=[]→dv5=.slice none 0 0)))
      case atStart=>exact⟨0,Ow,Fw,dvw,.slice none 0 0,by omega,rfl,by simpa using H5.out.1,by simpa using H5.out.2.1,Chg.refl _ _,fun _ h=>.inl h,fun b h=>(by cases h),by simpa using HK.out.2.2⟩
      case round =>
       obtain⟨j,O5,F5,dv5,cv,hj,rfl,HI⟩:=hrel
       by_cases hlt2:j<nc
       ·obtain⟨t,ht⟩:∃t,cl[j]? = some t:=⟨_,List.getElem?_eq_getElem (by have:=HNC.out;omega)⟩;obtain⟨tb,rfl,htb1,htb2,htO,htc5⟩:=H5.out.2.2.2.2.1 j t ht;have htcr:=HI.out.2.2.1.cell (p:=⟨tb,j,none⟩) (fun e=>e.elim htO (fun e=>absurd e (Nat.ne_of_lt htb2))) htc5;have hXr:=HI.out.2.2.1.holds (fun e=>e.elim hlO (by omega)) H5.out.2.2.1;obtain⟨d0,d1,d2⟩:=cells3 hXr;have htz:=HZ.out t (List.mem_of_getElem? ht);have hf1:(faultsOf t.data.toList).length≤t.size:=by have:=faults_le t.data.toList;rw[←size_list] at this;exact this
        have hdsl:((mid.take k).flatMap rowF++(cl.take j).flatMap (cellF x)).length+(faultsOf t.data.toList).length≤1000000000:=by
         have h1:=flat_faults (cellF x) (fun t=>by have:=faults_le t.data.toList;rw[←size_list] at this;simpa [cellF] using this) (cl.take j);have h2:=sum_take_le (cl.map (·.size)) j;rw[←List.map_take] at h2;rw[List.length_append];have:=HN.out.2
         omega
        have htk1:(cl.take (j+1)).flatMap (cellF x)=(cl.take j).flatMap (cellF x)++(faultsOf t.data.toList).map (dgOf x.file x.no t):=by rw[List.take_add_one,ht];simp[cellF]
        have htk2:(cl.take (j+1)).map (fun t=>spansOf t.data.toList)=(cl.take j).map (fun t=>spansOf t.data.toList)++[spansOf t.data.toList]:=by rw[List.take_add_one,ht];simp
        have hmr:Glob m wr:=by
         refine H5.out.2.2.2.2.2.1.chg HI.out.2.2.1 (fun b hb=>?_);have hb3:=HQ.out.2.2.2.2.three;have hB3:3≤B:=by have:=HBB.out;have:=HG.out.2.2.1;have:=HX.out.2.2.2.three;omega
         rcases hb with hb|hb
         ·have:=HK.out.1.geO b hb;omega
         ·omega
        have cs:=fun W (hW:Chg wr W (fun _=>False))=>bspansX_any (HI.out.1.rd.chg hW (fun _ _ h=>h) (fun _ _ h=>h)) x.file x.text x.no t htz (hmr.chg hW (fun _ h=>h.elim)) hdsl
        have CS:=Lib.hid cs;have HTT:=hidH2 htk1 htk2;have g0:=HI.out.2.1.box.cell 0;have q0:=HI.out.2.1.box.free 0;simp at g0;have hjl:j≤100000000:=by omega
        have hBr:B≤wr.heap.size:=by have:=HI.out.1.blk.lt;omega
        obtain⟨CA,cc,rfl,hcc,_⟩:=HI.out.2.1.cells.form;obtain⟨i0,hi0,hz0,hz1,hz2⟩:=info_parts cel_info;have HZI:=hidH4 hi0 hz0 hz1 hz2;have hcl3:((cl.take j).map (fun t=>spansOf t.data.toList)).length=j:=by rw[List.length_map,List.length_take];have:=HNC.out;omega
        rw[hcl3] at g0 hcc HI;have HCL:=Lib.hid hcl3;clear cs htk1 htk2 hdsl htc5 hmr hXr ht hi0 hz0 hz1 hz2 hcl3;go_wp2;refine wp_region_held_drew (S:=(fun w'=>w'.cell? ⟨lb,0,none⟩=some (.string x.file)∧w'.cell? ⟨lb,1,none⟩=some (.int .i64 x.no)∧w'.cell? ⟨lb,2,none⟩=some (.string x.text))) (by kernel_rfl) ?_ (fun hHeld0=>?_)
        ·(try dsimp only)
         first|exact⟨d0,d1,d2⟩|exact cells3 hX3|exact cells3 hX3a|exact cells3 hX4|exact cells3 hX5
        refine tkH 0 65 ?_;refine tkH 2 67 ?_;refine tkH 3 68 ?_;refine tkH 4 69 ?_;refine rdyH [1,5] ?_;refine AllReadyH.cons (o:=⟨some 66,_,_,_,_,_⟩) rfl (fun K hK=>?_) ?_
        ·skip
         go_simp;refine hK.out _ _ ?_ (fun hHeld1=>?_)
         ·(try dsimp only)
          first|exact⟨d0,d1,d2⟩|exact cells3 hX3|exact cells3 hX3a|exact cells3 hX4|exact cells3 hX5
         clear hK K hHeld0
         (try go_frame)
         refine rdyH [5] ?_;refine AllReadyH.cons (o:=⟨some 70,_,_,_,_,_⟩) rfl (fun K hK=>?_) AllReadyH.nil;go_simp;refine (CS.out _ (by first|exact Chg.refl _ _|exact (Chg.refl _ _).drew|exact (Chg.refl _ _).drew.drew)).mono ?_;rintro e w3 ⟨sv,O6,F6,dv6,rfl,hfo,hr6,ht6,hdv6⟩;have hC3:Chg wr w3 O5:=by
          first
          | exact ht6.chg
          | exact (((Chg.refl wr O5).drew).trans ht6.chg (fun _ _ h=>h))
          | exact (((Chg.refl wr O5).drew.drew).trans ht6.chg (fun _ _ h=>h))
         have hT36:Turn wr w3 O5 F5 O6 F6:=⟨hC3,ht6.inO,ht6.inF,ht6.moF⟩;have hTs:=HI.out.1.turn hr6 hT36;have hCs:=HI.out.2.1.turn HI.out.1.rd.off hT36;have hlO5:¬O5 lb:=fun e=>by rcases HI.out.2.2.2.1 lb e with e|e;exact hlO e;have:=H5.out.2.2.2.2.2.2;omega
         have hX3:=hC3.holds hlO5 (HI.out.2.2.1.holds (fun e=>e.elim hlO (by omega)) H5.out.2.2.1);have hX3a:=hX3.alloc (.cells #[sv] 203);obtain⟨As,cs',rfl,_⟩:=hfo.form;have k0:=hCs.box.cell 0;have k1:=hCs.box.free 0;have k2:=(hCs.box.alloc (.cells #[.slice As (spansOf t.data.toList).length cs'] 203)).cell 0;simp at k0 k2;have hB3:B≤w3.heap.size:=by have:=hTs.blk.lt;omega
         obtain⟨kvs,hkv1,hkv2,hkv3⟩:=hCs.cells;have H6:=hidH8 hTs hCs hfo hT36 hkv2 hkv1 hkv3 hdv6;clear hfo hr6 ht6 hTs hCs hC3 hT36 hkv1 hkv2 hkv3 hdv6;refine hK.out _ _ ?_ (fun hHeld2=>?_)
         ·(try dsimp only)
          first|exact⟨d0,d1,d2⟩|exact cells3 hX3|exact cells3 hX3a|exact cells3 hX4|exact cells3 hX5
         clear hK K hHeld1
         (try go_frame)
         refine tkH 6 71 ?_;refine rdyH [7] ?_;refine AllReadyH.cons (o:=⟨some 72,_,_,_,_,_⟩) rfl (fun K hK=>?_) AllReadyH.nil;go_simp;refine hK.out _ _ ?_ (fun hHeld3=>?_)
         ·(try dsimp only)
          first|exact⟨d0,d1,d2⟩|exact cells3 hX3|exact cells3 hX3a|exact cells3 hX4|exact cells3 hX5
         clear hK K hHeld2
         (try go_frame)
         refine rdyH [8] ?_;refine AllReadyH.cons (o:=⟨some 73,_,_,_,_,_⟩) rfl (fun K hK=>?_) AllReadyH.nil;have hkv2:=H6.out.2.2.2.2.1;rw[HCL.out] at hkv2;refine step_append_lies _ (by rfl) _ _ _ (by rfl) B 203 i0 _ 1 24 Tryz.underlying199 HZI.out.1 HZI.out.2.1 HZI.out.2.2.1 HZI.out.2.2.2 rfl (by omega) (.slice CA j cc) j kvs (by rfl) ((hkv2.alloc _).drew)
          ⟨w3.heap.size,0,none⟩ 1 1 [.slice As (spansOf t.data.toList).length cs'] (by rfl) (by rfl) (World.news_of_block (cs:=#[.slice As (spansOf t.data.toList).length cs']) (t:=203) (fr:=(0,0)) (heap_alloc_new w3 _)) (by simp[Value.oneCell'])
          (by omega) (by unfold maxLen;omega) (by omega) (by simp;omega) (w3.heap.size+1) (by simp) ?_
         intro g cap w4 ho4 hg4 hat4 hl4;have hC4:Chg w3 w4 (fun b=>(Value.slice CA j cc).ownBlock=some b):=by
          first
          | exact (((Chg.refl w3 _).alloc _).drew).trans (Chg.grown hg4) (fun _ _ h=>h.symm)
          | exact ((Chg.refl w3 _).alloc _).trans (Chg.grown hg4) (fun _ _ h=>h.symm)
         have hat5:(Value.slice CA j cc).ownBlock=some g∨w3.heap.size≤g:=hat4.imp id (fun e=>by omega);have hX4:=hC4.holds (fun e=>by have:=HI.out.2.2.2.2.1 lb e;have:=H5.out.2.2.2.2.2.2;omega) hX3;have hbx4:=hC4.holds (fun e=>(H6.out.2.1.cvO gb e).2.2.2.2 rfl) H6.out.2.1.box;have g4:=hbx4.cell 0;have q4:=hbx4.free 0;simp at g4;have hX5:=hX4.far (p:=⟨gb,0,none⟩) (by simp;omega) (.slice (some ⟨g,0,none⟩) (j+1) cap);obtain⟨hA1,hA2,hA3⟩:=CelS.add (g:=g) (c:=cap) (v':=.slice (some ⟨g,0,none⟩) (j+1) cap) H6.out.1 H6.out.2.1 H6.out.2.2.1 (by rw[HCL.out]) hC4 H6.out.2.2.2.2.2.1 H6.out.2.2.2.2.2.2.1 (by rw[HCL.out];exact ho4) hat5 hl4;have H7:=hidH3 hA1 hA2 hA3;clear hA1 hA2 hA3 hC4 hbx4 ho4 hg4 hat4 hkv2;refine hK.out _ _ ?_ (fun hHeld4=>?_)
         ·(try dsimp only)
          first|exact⟨d0,d1,d2⟩|exact cells3 hX3|exact cells3 hX3a|exact cells3 hX4|exact cells3 hX5
         clear hK K hHeld3
         (try go_frame)
         refine tkH 9 74 ?_;refine rdyH [10] ?_;refine AllReadyH.cons rfl (fun K hK=>?_) AllReadyH.nil;go_simp;refine hK.out _ _ ?_ (fun hHeld5=>?_)
         ·(try dsimp only)
          first|exact⟨d0,d1,d2⟩|exact cells3 hX3|exact cells3 hX3a|exact cells3 hX4|exact cells3 hX5
         clear hK K hHeld4
         (try go_frame)
         refine wpAnyH_done (by kernel_rfl) ?_ _;go_wp2
         go_roundg (gk-1)
         case measure=>omega
         case rel =>
          refine⟨j+1,O6,F6,dv6,_,by omega,by go_num,by rw[HTT.out.1,←List.append_assoc];exact H7.out.2.1,by rw[HTT.out.2];exact H7.out.1,?_,fun b hb=>?_,fun b hb=>?_,fun e=>?_⟩
          ·have:=H5.out.2.2.2.2.2.2
           refine ((HI.out.2.2.1.trans H6.out.2.2.2.1.chg (fun b hb e=>?_)).trans H7.out.2.2 (fun b hb e=>?_))
           ·rcases HI.out.2.2.2.1 b e with e|e
            ·exact .inl e
            ·omega
           ·rcases e with e|e
            ·exact .inr e
            ·have:=HI.out.2.2.2.2.1 b e;omega
          ·have:=HI.out.2.2.1.size
           rcases H6.out.2.2.2.1.inO b hb with e|e
           ·exact HI.out.2.2.2.1 b e
           ·exact .inr (by omega)
          ·have h1:=HI.out.2.2.1.size;have h2:=H6.out.2.2.2.1.chg.size;have e2:g=b:=by simpa [Value.ownBlock] using hb
           subst e2
           rcases hat5 with e|e
           ·exact HI.out.2.2.2.2.1 g e
           ·omega
          ·rw[HTT.out.1,←List.append_assoc,List.append_eq_nil_iff] at e;rw[H6.out.2.2.2.2.2.2.2 (List.map_eq_nil_iff.1 e.2)];exact HI.out.2.2.2.2.2 e.1
        refine AllReadyH.cons (o:=⟨some 70,_,_,_,_,_⟩) rfl (fun K hK=>?_) AllReadyH.nil;go_simp;refine (CS.out _ (by first|exact Chg.refl _ _|exact (Chg.refl _ _).drew|exact (Chg.refl _ _).drew.drew)).mono ?_;rintro e w3 ⟨sv,O6,F6,dv6,rfl,hfo,hr6,ht6,hdv6⟩;have hC3:Chg wr w3 O5:=by
         first
         | exact ht6.chg
         | exact (((Chg.refl wr O5).drew).trans ht6.chg (fun _ _ h=>h))
         | exact (((Chg.refl wr O5).drew.drew).trans ht6.chg (fun _ _ h=>h))
        have hT36:Turn wr w3 O5 F5 O6 F6:=⟨hC3,ht6.inO,ht6.inF,ht6.moF⟩;have hTs:=HI.out.1.turn hr6 hT36;have hCs:=HI.out.2.1.turn HI.out.1.rd.off hT36;have hlO5:¬O5 lb:=fun e=>by rcases HI.out.2.2.2.1 lb e with e|e;exact hlO e;have:=H5.out.2.2.2.2.2.2;omega
        have hX3:=hC3.holds hlO5 (HI.out.2.2.1.holds (fun e=>e.elim hlO (by omega)) H5.out.2.2.1);have hX3a:=hX3.alloc (.cells #[sv] 203);obtain⟨As,cs',rfl,_⟩:=hfo.form;have k0:=hCs.box.cell 0;have k1:=hCs.box.free 0;have k2:=(hCs.box.alloc (.cells #[.slice As (spansOf t.data.toList).length cs'] 203)).cell 0;simp at k0 k2;have hB3:B≤w3.heap.size:=by have:=hTs.blk.lt;omega
        obtain⟨kvs,hkv1,hkv2,hkv3⟩:=hCs.cells;have H6:=hidH8 hTs hCs hfo hT36 hkv2 hkv1 hkv3 hdv6;clear hfo hr6 ht6 hTs hCs hC3 hT36 hkv1 hkv2 hkv3 hdv6;refine hK.out _ _ ?_ (fun hHeld1=>?_)
        ·(try dsimp only)
         first|exact⟨d0,d1,d2⟩|exact cells3 hX3|exact cells3 hX3a|exact cells3 hX4|exact cells3 hX5
        clear hK K hHeld0
        (try go_frame)
        refine tkH 6 71 ?_;refine rdyH [1,7] ?_;refine AllReadyH.cons (o:=⟨some 66,_,_,_,_,_⟩) rfl (fun K hK=>?_) ?_
        ·skip
         go_simp;refine hK.out _ _ ?_ (fun hHeld2=>?_)
         ·(try dsimp only)
          first|exact⟨d0,d1,d2⟩|exact cells3 hX3|exact cells3 hX3a|exact cells3 hX4|exact cells3 hX5
         clear hK K hHeld1
         (try go_frame)
         refine rdyH [7] ?_;refine AllReadyH.cons (o:=⟨some 72,_,_,_,_,_⟩) rfl (fun K hK=>?_) AllReadyH.nil;go_simp;refine hK.out _ _ ?_ (fun hHeld3=>?_)
         ·(try dsimp only)
          first|exact⟨d0,d1,d2⟩|exact cells3 hX3|exact cells3 hX3a|exact cells3 hX4|exact cells3 hX5
         clear hK K hHeld2
         (try go_frame)
         refine rdyH [8] ?_;refine AllReadyH.cons (o:=⟨some 73,_,_,_,_,_⟩) rfl (fun K hK=>?_) AllReadyH.nil;have hkv2:=H6.out.2.2.2.2.1;rw[HCL.out] at hkv2;refine step_append_lies _ (by rfl) _ _ _ (by rfl) B 203 i0 _ 1 24 Tryz.underlying199 HZI.out.1 HZI.out.2.1 HZI.out.2.2.1 HZI.out.2.2.2 rfl (by omega) (.slice CA j cc) j kvs (by rfl) ((hkv2.alloc _).drew)
          ⟨w3.heap.size,0,none⟩ 1 1 [.slice As (spansOf t.data.toList).length cs'] (by rfl) (by rfl) (World.news_of_block (cs:=#[.slice As (spansOf t.data.toList).length cs']) (t:=203) (fr:=(0,0)) (heap_alloc_new w3 _)) (by simp[Value.oneCell'])
          (by omega) (by unfold maxLen;omega) (by omega) (by simp;omega) (w3.heap.size+1) (by simp) ?_
         intro g cap w4 ho4 hg4 hat4 hl4;have hC4:Chg w3 w4 (fun b=>(Value.slice CA j cc).ownBlock=some b):=by
          first
          | exact (((Chg.refl w3 _).alloc _).drew).trans (Chg.grown hg4) (fun _ _ h=>h.symm)
          | exact ((Chg.refl w3 _).alloc _).trans (Chg.grown hg4) (fun _ _ h=>h.symm)
         have hat5:(Value.slice CA j cc).ownBlock=some g∨w3.heap.size≤g:=hat4.imp id (fun e=>by omega);have hX4:=hC4.holds (fun e=>by have:=HI.out.2.2.2.2.1 lb e;have:=H5.out.2.2.2.2.2.2;omega) hX3;have hbx4:=hC4.holds (fun e=>(H6.out.2.1.cvO gb e).2.2.2.2 rfl) H6.out.2.1.box;have g4:=hbx4.cell 0;have q4:=hbx4.free 0;simp at g4;have hX5:=hX4.far (p:=⟨gb,0,none⟩) (by simp;omega) (.slice (some ⟨g,0,none⟩) (j+1) cap);obtain⟨hA1,hA2,hA3⟩:=CelS.add (g:=g) (c:=cap) (v':=.slice (some ⟨g,0,none⟩) (j+1) cap) H6.out.1 H6.out.2.1 H6.out.2.2.1 (by rw[HCL.out]) hC4 H6.out.2.2.2.2.2.1 H6.out.2.2.2.2.2.2.1 (by rw[HCL.out];exact ho4) hat5 hl4;have H7:=hidH3 hA1 hA2 hA3;clear hA1 hA2 hA3 hC4 hbx4 ho4 hg4 hat4 hkv2;refine hK.out _ _ ?_ (fun hHeld4=>?_)
         ·(try dsimp only)
          first|exact⟨d0,d1,d2⟩|exact cells3 hX3|exact cells3 hX3a|exact cells3 hX4|exact cells3 hX5
         clear hK K hHeld3
         (try go_frame)
         refine tkH 9 74 ?_;refine rdyH [10] ?_;refine AllReadyH.cons rfl (fun K hK=>?_) AllReadyH.nil;go_simp;refine hK.out _ _ ?_ (fun hHeld5=>?_)
         ·(try dsimp only)
          first|exact⟨d0,d1,d2⟩|exact cells3 hX3|exact cells3 hX3a|exact cells3 hX4|exact cells3 hX5
         clear hK K hHeld4
         (try go_frame)
         refine wpAnyH_done (by kernel_rfl) ?_ _;go_wp2
         go_roundg (gk-1)
         case measure=>omega
         case rel =>
          refine⟨j+1,O6,F6,dv6,_,by omega,by go_num,by rw[HTT.out.1,←List.append_assoc];exact H7.out.2.1,by rw[HTT.out.2];exact H7.out.1,?_,fun b hb=>?_,fun b hb=>?_,fun e=>?_⟩
          ·have:=H5.out.2.2.2.2.2.2
           refine ((HI.out.2.2.1.trans H6.out.2.2.2.1.chg (fun b hb e=>?_)).trans H7.out.2.2 (fun b hb e=>?_))
           ·rcases HI.out.2.2.2.1 b e with e|e
            ·exact .inl e
            ·omega
           ·rcases e with e|e
            ·exact .inr e
            ·have:=HI.out.2.2.2.2.1 b e;omega
          ·have:=HI.out.2.2.1.size
           rcases H6.out.2.2.2.1.inO b hb with e|e
           ·exact HI.out.2.2.2.1 b e
           ·exact .inr (by omega)
          ·have h1:=HI.out.2.2.1.size;have h2:=H6.out.2.2.2.1.chg.size;have e2:g=b:=by simpa [Value.ownBlock] using hb
           subst e2
           rcases hat5 with e|e
           ·exact HI.out.2.2.2.2.1 g e
           ·omega
          ·rw[HTT.out.1,←List.append_assoc,List.append_eq_nil_iff] at e;rw[H6.out.2.2.2.2.2.2.2 (List.map_eq_nil_iff.1 e.2)];exact HI.out.2.2.2.2.2 e.1
        refine AllReadyH.cons (o:=⟨some 72,_,_,_,_,_⟩) rfl (fun K hK=>?_) AllReadyH.nil;go_simp;refine hK.out _ _ ?_ (fun hHeld2=>?_)
        ·(try dsimp only)
         first|exact⟨d0,d1,d2⟩|exact cells3 hX3|exact cells3 hX3a|exact cells3 hX4|exact cells3 hX5
        clear hK K hHeld1
        (try go_frame)
        refine rdyH [1] ?_;refine AllReadyH.cons (o:=⟨some 66,_,_,_,_,_⟩) rfl (fun K hK=>?_) AllReadyH.nil;go_simp;refine hK.out _ _ ?_ (fun hHeld3=>?_)
        ·(try dsimp only)
         first|exact⟨d0,d1,d2⟩|exact cells3 hX3|exact cells3 hX3a|exact cells3 hX4|exact cells3 hX5
        clear hK K hHeld2
        (try go_frame)
        refine rdyH [8] ?_;refine AllReadyH.cons (o:=⟨some 73,_,_,_,_,_⟩) rfl (fun K hK=>?_) AllReadyH.nil;have hkv2:=H6.out.2.2.2.2.1;rw[HCL.out] at hkv2;refine step_append_lies _ (by rfl) _ _ _ (by rfl) B 203 i0 _ 1 24 Tryz.underlying199 HZI.out.1 HZI.out.2.1 HZI.out.2.2.1 HZI.out.2.2.2 rfl (by omega) (.slice CA j cc) j kvs (by rfl) ((hkv2.alloc _).drew)
         ⟨w3.heap.size,0,none⟩ 1 1 [.slice As (spansOf t.data.toList).length cs'] (by rfl) (by rfl) (World.news_of_block (cs:=#[.slice As (spansOf t.data.toList).length cs']) (t:=203) (fr:=(0,0)) (heap_alloc_new w3 _)) (by simp[Value.oneCell'])
         (by omega) (by unfold maxLen;omega) (by omega) (by simp;omega) (w3.heap.size+1) (by simp) ?_
        intro g cap w4 ho4 hg4 hat4 hl4;have hC4:Chg w3 w4 (fun b=>(Value.slice CA j cc).ownBlock=some b):=by
         first
         | exact (((Chg.refl w3 _).alloc _).drew).trans (Chg.grown hg4) (fun _ _ h=>h.symm)
         | exact ((Chg.refl w3 _).alloc _).trans (Chg.grown hg4) (fun _ _ h=>h.symm)
        have hat5:(Value.slice CA j cc).ownBlock=some g∨w3.heap.size≤g:=hat4.imp id (fun e=>by omega);have hX4:=hC4.holds (fun e=>by have:=HI.out.2.2.2.2.1 lb e;have:=H5.out.2.2.2.2.2.2;omega) hX3;have hbx4:=hC4.holds (fun e=>(H6.out.2.1.cvO gb e).2.2.2.2 rfl) H6.out.2.1.box;have g4:=hbx4.cell 0;have q4:=hbx4.free 0;simp at g4;have hX5:=hX4.far (p:=⟨gb,0,none⟩) (by simp;omega) (.slice (some ⟨g,0,none⟩) (j+1) cap);obtain⟨hA1,hA2,hA3⟩:=CelS.add (g:=g) (c:=cap) (v':=.slice (some ⟨g,0,none⟩) (j+1) cap) H6.out.1 H6.out.2.1 H6.out.2.2.1 (by rw[HCL.out]) hC4 H6.out.2.2.2.2.2.1 H6.out.2.2.2.2.2.2.1 (by rw[HCL.out];exact ho4) hat5 hl4;have H7:=hidH3 hA1 hA2 hA3;clear hA1 hA2 hA3 hC4 hbx4 ho4 hg4 hat4 hkv2;refine hK.out _ _ ?_ (fun hHeld4=>?_)
        ·(try dsimp only)
         first|exact⟨d0,d1,d2⟩|exact cells3 hX3|exact cells3 hX3a|exact cells3 hX4|exact cells3 hX5
        clear hK K hHeld3
        (try go_frame)
        refine tkH 9 74 ?_;refine rdyH [10] ?_;refine AllReadyH.cons rfl (fun K hK=>?_) AllReadyH.nil;go_simp;refine hK.out _ _ ?_ (fun hHeld5=>?_)
        ·(try dsimp only)
         first|exact⟨d0,d1,d2⟩|exact cells3 hX3|exact cells3 hX3a|exact cells3 hX4|exact cells3 hX5
        clear hK K hHeld4
        (try go_frame)
        refine wpAnyH_done (by kernel_rfl) ?_ _;go_wp2
        go_roundg (gk-1)
        case measure=>omega
        case rel =>
         refine⟨j+1,O6,F6,dv6,_,by omega,by go_num,by rw[HTT.out.1,←List.append_assoc];exact H7.out.2.1,by rw[HTT.out.2];exact H7.out.1,?_,fun b hb=>?_,fun b hb=>?_,fun e=>?_⟩
         ·have:=H5.out.2.2.2.2.2.2
          refine ((HI.out.2.2.1.trans H6.out.2.2.2.1.chg (fun b hb e=>?_)).trans H7.out.2.2 (fun b hb e=>?_))
          ·rcases HI.out.2.2.2.1 b e with e|e
           ·exact .inl e
           ·omega
          ·rcases e with e|e
           ·exact .inr e
           ·have:=HI.out.2.2.2.2.1 b e;omega
         ·have:=HI.out.2.2.1.size
          rcases H6.out.2.2.2.1.inO b hb with e|e
          ·exact HI.out.2.2.2.1 b e
          ·exact .inr (by omega)
         ·have h1:=HI.out.2.2.1.size;have h2:=H6.out.2.2.2.1.chg.size;have e2:g=b:=by simpa [Value.ownBlock] using hb
          subst e2
          rcases hat5 with e|e
          ·exact HI.out.2.2.2.2.1 g e
          ·omega
         ·rw[HTT.out.1,←List.append_assoc,List.append_eq_nil_iff] at e;rw[H6.out.2.2.2.2.2.2.2 (List.map_eq_nil_iff.1 e.2)];exact HI.out.2.2.2.2.2 e.1
       ·obtain rfl:j=nc:=by omega
        have hcl3:cl.take j=cl:=List.take_of_length_le (by have:=HNC.out;omega);rw[hcl3] at HI;obtain⟨RA,rc,rfl,hrc,_⟩:=HI.out.1.rows.form;obtain⟨nr,hnr⟩:∃nr,((mid.take k).flatMap rowT).length=nr:=⟨_,rfl⟩;have hnrl:nr≤1000000000:=by have:=rowTs_le (mid.take k);rw[List.length_take] at this;omega
        obtain⟨CA,cc,rfl,hcc,_⟩:=HI.out.2.1.cells.form;obtain⟨kvs,hkv1,hkv2,hkv3⟩:=HI.out.1.rows;have r6:wr.cell? ⟨B+1,6,none⟩=some (.slice RA ((mid.take k).flatMap rowT).length rc):=HI.out.1.blk.cell 6;have x6:=HI.out.1.blk.free 6;have g0:wr.cell? ⟨gb,0,none⟩=some (.slice CA (cl.map fun t=>spansOf t.data.toList).length cc):=HI.out.2.1.box.cell 0;rw[hnr] at r6 hkv2 HI hrc;obtain⟨i0,hi0,hz0,hz1,hz2⟩:=info_parts rwr_info;have HZI:=hidH4 hi0 hz0 hz1 hz2;have HKV:=hidH3 hkv1 hkv2 hkv3;have hBr:B+1<wr.heap.size:=HI.out.1.blk.lt;have HNR:=Lib.hid hnr;have hcll:(cl.map fun t=>spansOf t.data.toList).length=j:=by rw[List.length_map];exact HNC.out
        rw[hcll] at g0 HI hcc;clear hi0 hz0 hz1 hz2 hkv1 hkv2 hkv3 hnr hcl3 hcll
        go_wp2_with (at_builtin;refine wpList_append_lies _ (by rfl) _ _ _ (by rfl) B 201 i0 _ 1 24 Tryz.underlying60 HZI.out.1 HZI.out.2.1 HZI.out.2.2.1 HZI.out.2.2.2 rfl (by omega) (.slice RA nr rc) nr kvs (by rfl) (HKV.out.2.1.alloc _) ⟨wr.heap.size,0,none⟩ 1 1 [.slice CA j cc] (by rfl) (by rfl) (World.news_of_block (cs:=#[.slice CA j cc]) (t:=201) (fr:=(0,0)) (heap_alloc_new wr _)) (by simp[Value.oneCell']) (by omega) (by unfold maxLen;omega) (by omega) (by simp;omega) (wr.heap.size+1) (by simp) ?_)
        intro g cap w4 ho4 hg4 hat4 hl4;have hC4:Chg wr w4 (fun b=>(Value.slice RA nr rc).ownBlock=some b):=((Chg.refl wr _).alloc _).trans (Chg.grown hg4) (fun _ _ h=>h.symm);have hat5:(Value.slice RA nr rc).ownBlock=some g∨wr.heap.size≤g:=hat4.imp id (fun e=>by omega);have hbk4:=hC4.holds (fun e=>(HI.out.1.rvO (B+1) e).2.2 rfl) HI.out.1.blk;have y6:=hbk4.free 6;have y7:w4.cell? ⟨B+1,6,none⟩=some (.slice RA nr rc):=hbk4.cell 6;obtain⟨F2,hA1,hA2,hA3,hA4⟩:=TabS.row (g:=g) (c:=cap) (v':=.slice (some ⟨g,0,none⟩) (nr+1) cap) HI.out.1 HI.out.2.1 (by rw[HNR.out]) hC4 HKV.out.1 HKV.out.2.2 (by rw[HNR.out];exact ho4) hat5 hl4;have hbw9:Below B W3 (w4.setCell ⟨B+1,6,none⟩ (.slice (some ⟨g,0,none⟩) (nr+1) cap)):=by
         have h1:Below B W5 wr:=HI.out.2.2.1.toBelow (by have:=H5.out.1.blk.lt;omega) (fun b e=>e.elim (HK.out.1.geO b) (fun e=>by omega));have h2:Below B wr (w4.setCell ⟨B+1,6,none⟩ (.slice (some ⟨g,0,none⟩) (nr+1) cap)):=hA2.toBelow (by omega) (fun b e=>e.elim (fun e=>by omega) (fun e=>by
          obtain⟨_,_,_,_,hrk⟩:=HI.out.1.rows.form;exact (hrk b e).1))
         exact (H5.out.2.2.2.1.trans h1).trans h2
        have H8:=hidH2 hA1 hbw9;clear hA1 hA2 hA3 hA4 hbw9 hC4 hbk4 ho4 hg4 hat4 hat5;go_wp2
        go_roundg (gO-1)
        case measure=>omega
        case rel=>exact⟨k+1,O5,F2,dv5,_,by omega,by go_num,by rw[HN.out.1.1,HN.out.1.2];exact H8.out.1,H8.out.2,by rw[HN.out.1.2];exact HI.out.2.2.2.2.2⟩
   ·obtain rfl:k=kk:=by omega
    have hTK:=HK.out.1;have hdn:=HK.out.2.2;rw[List.take_of_length_le (by omega),HJ.out.2.1] at hTK hdn;rw[HJ.out.1] at hTK;obtain⟨RA,rc,rfl,hrc,_⟩:=hTK.rows.form;obtain⟨kvs,hkv1,hkv2,hkv3⟩:=hTK.rows;have r6:=hTK.blk.cell 6;simp[tabBlk] at r6;have EV:=even_any (.slice RA RT.length rc) kvs (RT.map List.length) wr wr.heap.size (own_rd hkv2) (Nat.le_refl _) (by rw[hkv1,List.length_map]) (fun j q hj=>by
     rw[List.getElem?_map] at hj;obtain⟨row,hrow,rfl⟩:=Option.map_eq_some_iff.1 hj;have hjl:=(List.getElem?_eq_some_iff.1 hrow).1;obtain⟨kv,hkv⟩:∃kv,kvs[j]? = some kv:=⟨_,List.getElem?_eq_getElem (by omega)⟩;obtain⟨A',c',e,_⟩:=(hkv3 j row kv hrow hkv).len;exact⟨A',c',by rw[hkv,e]⟩) (by rw[List.length_map];exact hRTl)
    have HTK:=hidH2 hTK hdn;clear hTK hdn hkv1 hkv2 hkv3
    go_wp2_with fail
    refine EV.mono ?_;clear EV;rintro e w1 ⟨rfl,hb1⟩;have hT1:=HTK.out.1.below hb1;have hbw1:=HK.out.2.1.trans (hb1.mono hBw);have hCW:Chg W3 w1 (fun _=>False):=Chg.below (by rw[HBB.out];exact hbw1) _;have hR1:=HS.out.1.chg hCW (fun _ _ h=>h) (fun _ _ h=>h);have hX1:=hCW.holds (fun h=>h) HG.out.1;have hm1:=HG.out.2.2.2.1.chg hCW (fun _ h=>h.elim);have hTu1:Turn w w1 O F O1 F:=HS.out.2.trans ⟨hCW.mono (fun _ _ h=>h.elim),fun _ h=>.inl h,fun _ h=>.inl h,fun _ h=>h⟩;obtain⟨F2,hrF,_,hF2b⟩:=hT1.told;have hO1B:∀b,O1 b→b<B:=fun b hb=>HBB.out ▸ HS.out.1.ltO b hb
    have hwB:w.heap.size≤B:=by have:=HBB.out;have:=HG.out.2.2.1;have:=HX.out.2.1.chg.size;omega
    have hnw:w.heap.size≤n:=Nat.le_of_eq HX.out.2.2.1;have hOw:∀b,Ow b→B≤b∧b<w1.heap.size:=fun b hb=>⟨hT1.geO b hb,hT1.rd.ltO b hb⟩
    have hB1w:B+1<w1.heap.size:=hT1.blk.lt;have HV:=hidH3 hF2b hO1B hOw
    by_cases hev:evenB (RT.map List.length)=true
    focus
     have hE0:E=[]:=by rw[←HJ.out.2.2.1,if_pos hev]
     rw[hev];obtain⟨d0,d1,d2⟩:=cells3 hX1;have HW6:Hid (Rdr w1 O1 F rb lv P3 bv bs dv1 (ds++D++E)∧Turn w w1 O F O1 F∧TabS w1 B Ow Fw B dvw RF (B+1) (.slice RA RT.length rc) RT∧Holds w1 n 98 #[.string f,.int .i64 no,.string t]∧Glob m w1∧RowsF w1 F2 (.slice RA RT.length rc) RT∧(∀b,O1 b→3≤b)):=Lib.hid ⟨by rw[hE0,List.append_nil];exact hR1,hTu1,hT1,hX1,hm1,hrF,HG.out.2.2.2.2⟩;obtain⟨W6,hW6⟩:∃W6,w1=W6:=⟨_,rfl⟩;have HZ6:Hid (w1.heap.size≤W6.heap.size):=Lib.hid (by rw[hW6];exact Nat.le_refl _);have hnO4:=hnO1;rw[hW6] at HW6 d0 d1 d2 ⊢;obtain⟨O4,hO4⟩:∃O4,O1=O4:=⟨_,rfl⟩;obtain⟨dv4,hdv4⟩:∃dv4,dv1=dv4:=⟨_,rfl⟩;have HV6:Hid (∀b,O4 b→b<B∨w1.heap.size≤b):=Lib.hid (fun b hb=>.inl (hO1B b (hO4 ▸ hb)));rw[hO4,hdv4] at HW6;rw[hO4] at hnO4;clear hR1 hTu1 hT1 hX1 hm1 hrF hF2b hOw hb1 hbw1 hCW hW6 hO4 hdv4 hE0 hev r6
    rotate_left
    focus
     have hE0:E=[⟨f,no,9,s⟩]:=by rw[←HJ.out.2.2.1,if_neg hev]
     have hev2:evenB (RT.map List.length)=false:=by simpa using hev
     rw[hev2];have CF:=fault_any hR1 f t no 9 s (by rw[List.length_append];omega);have e9:((9:Nat):Int)=9:=rfl;rw[e9] at CF;obtain⟨d0,d1,d2⟩:=cells3 hX1;clear e9
     go_wp2_with fail
     refine CF.mono ?_;clear CF;rintro e W6 ⟨rfl,O4,dv4,hr6,ht6⟩;have hnl:=hX1.lt;have hnO4:¬O4 n:=ht6.offO hnl hnO1;have hX6:=ht6.chg.holds hnO1 hX1;have hm6:=ht6.chg;have HV6:Hid (∀b,O4 b→b<B∨w1.heap.size≤b):=Lib.hid (fun b hb=>(ht6.inO b hb).imp (hO1B b) id);have HW6:Hid (Rdr W6 O4 F rb lv P3 bv bs dv4 (ds++D++E)∧Turn w W6 O F O4 F∧TabS W6 B Ow Fw B dvw RF (B+1) (.slice RA RT.length rc) RT∧Holds W6 n 98 #[.string f,.int .i64 no,.string t]∧Glob m W6∧RowsF W6 F2 (.slice RA RT.length rc) RT∧(∀b,O4 b→3≤b)):=Lib.hid ⟨by rw[hE0];exact hr6,hTu1.trans ht6,
      hT1.chg ht6.chg (fun b hb e=>by have:=hT1.geO b hb;have:=hO1B b e;omega) (fun b hb e=>by have:=hT1.geF b hb;have:=hO1B b e;omega) (fun e=>by have:=hO1B _ e;omega) (fun b hb e=>by
       obtain⟨_,_,_,_,hrk⟩:=hT1.rows.form;have:=(hrk b hb).1;have:=hO1B b e;omega),hX6,hm1.chg ht6.chg HG.out.2.2.2.2,
      RowsF.stays.go hrF ht6.chg (fun _ h=>h) (fun b hb e=>by have:=(hF2b b hb).1;have:=hO1B b e;omega),fun b hb=>(ht6.inO b hb).elim (HG.out.2.2.2.2 b) (fun e=>by have:=hm1.three;omega)⟩
     have HZ6:Hid (w1.heap.size≤W6.heap.size):=Lib.hid ht6.chg.size;obtain⟨d0,d1,d2⟩:=cells3 hX6;clear hR1 hTu1 hT1 hX1 hm1 hrF hF2b hOw hb1 hbw1 hCW hE0 hev hev2 r6 hr6 ht6 hX6 hm6
    rotate_left
    all_goals
     have hOwo:∀b,B≤b→b<w1.heap.size→¬O4 b:=fun b h1 h2 e=>by
      rcases HV6.out b e with e|e<;>omega
     have hBo:¬O4 (B+1):=hOwo _ (by omega) hB1w;have hWo:¬O4 B:=hOwo _ (by omega) (by omega);have hr6:=HW6.out.1.more (F':=fun b=>F b∨F2 b) (fun b hb=>.inl hb) (fun b hb=>hb.elim (HW6.out.1.off b) (fun e=>hOwo b (HV.out.1 b e).1 (HV.out.1 b e).2)) (fun b hb=>hb.elim (HW6.out.1.ltF b) (fun e=>by have:=(HV.out.1 b e).2;have:=HZ6.out;omega));have ht6:Turn w W6 O F O4 (fun b=>F b∨F2 b):=⟨HW6.out.2.1.chg,HW6.out.2.1.inO,fun b hb=>hb.elim (fun e=>.inl e) (fun e=>.inr (by have:=(HV.out.1 b e).1;omega)),fun b hb=>.inl hb⟩;have hx6:RowsF W6 (fun b=>F b∨F2 b) (.slice RA RT.length rc) RT:=RowsF.stays.go HW6.out.2.2.2.2.2.1 (Chg.refl W6 (fun _=>False)) (fun b hb=>.inr hb) (fun _ _ h=>h);obtain⟨F6,hF6⟩:∃F6,(fun b=>F b∨F2 b)=F6:=⟨_,rfl⟩;rw[hF6] at hr6 ht6 hx6;obtain⟨b0,b1,b2,b3,b4,b5,b6,b7,b8⟩:=cells9 HW6.out.2.2.1.blk;have ct:=fun W (hW:Chg W6 W (fun _=>False))=>titled_any (hr6.chg hW (fun _ _ h=>h) (fun _ _ h=>h)) ⟨6,0,false,⟨#[]⟩,⟨#[]⟩,[],RT,⟨#[]⟩,0⟩ (.slice RA RT.length rc) (RowsF.stays.go hx6 hW (fun _ h=>h) (fun _ _ h=>h)) f t no T (by omega) (HW6.out.2.2.2.2.1.chg hW (fun _ h=>h.elim)) HW6.out.2.2.2.2.2.2 hl (by simp only[List.length_append];omega)
     have e6:((6:Nat):Int)=6:=rfl;have e0:((0:Nat):Int)=0:=rfl;simp only[e6,e0] at ct;obtain⟨DS,hDS⟩:∃DS,ds++D++E++titledD f no T=DS:=⟨_,rfl⟩;have hDSl:DS.length≤1000000000:=by
      rw[←hDS];simp only[List.length_append];omega
     rw[hDS] at ct;have hfin:ds++(D++E++titledD f no T++RF)=DS++RF:=by rw[←hDS];simp only[List.append_assoc]
     have HFIN:=Lib.hid hfin;have CT:=Lib.hid ct;have H6:=hidH2 ht6 hBo;have hTL:=HJ.out.2.2.2;have hse:(4:Int)≤(s.size:Int):=by omega
     clear hr6 ht6 hx6 ct e6 e0 hF6 hDS hfin;go_wp2;refine wp_region_held_drew (S:=(fun w'=>(w'.cell? ⟨B+1,0,none⟩=some (.int .u8 6)∧w'.cell? ⟨B+1,1,none⟩=some (.int .i64 0)∧w'.cell? ⟨B+1,2,none⟩=some (.bool false)∧w'.cell? ⟨B+1,3,none⟩=some (.string ⟨#[]⟩)∧w'.cell? ⟨B+1,4,none⟩=some (.string ⟨#[]⟩)∧w'.cell? ⟨B+1,5,none⟩=some (.slice none 0 0)∧w'.cell? ⟨B+1,6,none⟩=some (.slice RA RT.length rc)∧w'.cell? ⟨B+1,7,none⟩=some (.string ⟨#[]⟩)∧w'.cell? ⟨B+1,8,none⟩=some (.int .i64 0))∧w'.cell? ⟨n,0,none⟩=some (.string f)∧w'.cell? ⟨n,1,none⟩=some (.int .i64 no)∧w'.cell? ⟨n,2,none⟩=some (.string t))) (by kernel_rfl) ?_ (fun hHeld0=>?_)
     ·(try dsimp only)
      first|exact⟨⟨b0,b1,b2,b3,b4,b5,b6,b7,b8⟩,d0,d1,d2⟩|exact⟨cells9 hk7,cells3 hx7⟩|exact⟨cells9 hk8,cells3 hx8⟩
     refine tkH 0 91 ?_;refine tkH 1 92 ?_;refine tkH 2 93 ?_;refine tkH 3 94 ?_;refine tkH 4 95 ?_;refine rdyH [5] ?_;refine AllReadyH.cons (o:=⟨some 96,_,_,_,_,_⟩) rfl (fun K hK=>?_) AllReadyH.nil;go_simp;refine (hTL _).mono ?_;rintro e w7 ⟨rfl,hb7⟩;have hC7:Chg W6 w7 (fun _=>False):=by
      first
      | exact (Chg.refl _ _).trans (Chg.below hb7 _) (fun k _ h=>h)
      | exact ((Chg.refl _ _).drew).trans (Chg.below hb7 _) (fun k _ h=>h)
      | exact ((Chg.refl _ _).drew.drew).trans (Chg.below hb7 _) (fun k _ h=>h)
     have hk7:=hC7.holds (fun h=>h) HW6.out.2.2.1.blk;have hx7:=hC7.holds (fun h=>h) HW6.out.2.2.2.1;have H7:=Lib.hid hC7;clear hC7 hb7;refine hK.out _ _ ?_ (fun hHeld1=>?_)
     ·(try dsimp only)
      first|exact⟨⟨b0,b1,b2,b3,b4,b5,b6,b7,b8⟩,d0,d1,d2⟩|exact⟨cells9 hk7,cells3 hx7⟩|exact⟨cells9 hk8,cells3 hx8⟩
     clear hK K hHeld0
     (try go_frame)
     refine rdyH [6] ?_;refine AllReadyH.cons (o:=⟨some 97,_,_,_,_,_⟩) rfl (fun K hK=>?_) AllReadyH.nil;go_simp;refine (CT.out _ H7.out).mono ?_;rintro e w8 ⟨rfl,O5,F5,bv5,dv5,hr8,ht8⟩;have hk8:=ht8.chg.holds H6.out.2 hk7;have hx8:=ht8.chg.holds hnO4 hx7;have hw8:=ht8.chg.holds hWo (H7.out.holds (fun h=>h) HW6.out.2.2.1.rd.hold);have hg8:=ht8.chg.owns (H7.out.owns HW6.out.2.2.1.rd.dg (fun _ _ h=>h)) (fun k hk=>hOwo k (HV.out.2.2 k (HW6.out.2.2.1.rd.oD k hk).1).1 (HV.out.2.2 k (HW6.out.2.2.1.rd.oD k hk).1).2);have ht9:Turn w w8 O F O5 F5:=(H6.out.1.trans ⟨H7.out.mono (fun _ _ h=>h.elim),fun _ h=>.inl h,fun _ h=>.inl h,fun _ h=>h⟩).trans ht8;have hBr5:rb≠B:=fun e=>by
      have h1:=HW6.out.1.oR;exact hWo (e ▸ h1)
     have hdvr:∀k,dvw.ownBlock=some k→k≠rb∧¬O5 k∧k<w8.heap.size:=fun k hk=>by
      have h1:=HV.out.2.2 k (HW6.out.2.2.1.rd.oD k hk).1;have h2:=hOwo k h1.1 h1.2;have h3:=HZ6.out;have h4:=H7.out.size;have h5:=ht8.chg.size;exact⟨fun e=>h2 (e ▸ HW6.out.1.oR),ht8.offO (by omega) h2,by omega⟩
     have hWO5:¬O5 B:=ht8.offO (by have:=HZ6.out;have:=H7.out.size;omega) hWo;have H8:=hidH5 hr8 ht9 hw8 hg8 hdvr;clear hr8 ht8 ht9 hw8 hg8 hdvr;refine hK.out _ _ ?_ (fun hHeld2=>?_)
     ·(try dsimp only)
      first|exact⟨⟨b0,b1,b2,b3,b4,b5,b6,b7,b8⟩,d0,d1,d2⟩|exact⟨cells9 hk7,cells3 hx7⟩|exact⟨cells9 hk8,cells3 hx8⟩
     clear hK K hHeld1
     (try go_frame)
     refine wpAnyH_done (by kernel_rfl) ?_ _;obtain⟨Ad,cd,rfl⟩:∃A c,dv5=.slice A DS.length c:=by
      rcases H8.out.1.dg.2 with ⟨h1,h2⟩|⟨g,cap,cur,h1,_⟩
      ·exact⟨none,0,by rw[h1,h2]⟩
      ·exact⟨_,_,h1⟩
     have r3:=H8.out.1.hold.cell 3;have q3:=H8.out.1.hold.free 3;have y3:=H8.out.2.2.1.cell 3;simp at r3 y3;obtain⟨i0,hi0,hz0,hz1,hz2⟩:=info_parts diag_info;have HZI:=hidH4 hi0 hz0 hz1 hz2;have hbl8:=H8.out.1.hold.lt;have hBl8:=H8.out.2.2.1.lt;clear hi0 hz0 hz1 hz2 hk7 hx7 hk8 hx8 b0 b1 b2 b3 b4 b5 b6 b7 b8 d0 d1 d2
     by_cases hR0:RF=[]
     focus
      have hdn:=HTK.out.2 hR0;have HR0:=Lib.hid hR0;rw[hdn] at y3;have hk3:=cell_far (g:=rb) (i:=3) (j:=3) hBr5 (.slice Ad DS.length cd) y3;have HDN:=Lib.hid hdn;clear hdn hR0;go_wp2;refine wp_region_held_drew (S:=(fun w'=>w'.cell? ⟨B,3,none⟩=some (.slice none 0 0))) (by kernel_rfl) ?_ (fun hHeld0=>?_)
      ·(try dsimp only)
       first|exact y3|exact hk3
      refine tkH 0 98 ?_;refine tkH 1 99 ?_;refine tkH 2 100 ?_;refine tkH 3 101 ?_;refine tkH 5 103 ?_;refine tkH 6 104 ?_;refine tkH 7 105 ?_;refine tkH 8 106 ?_;refine rdyH [4] ?_;refine AllReadyH.cons (o:=⟨some 102,_,_,_,_,_⟩) rfl (fun K hK=>?_) AllReadyH.nil;go_simp;refine hK.out _ _ ?_ (fun hHeld1=>?_)
      ·(try dsimp only)
       first|exact y3|exact hk3
      clear hK K hHeld0
      (try go_frame)
      refine rdyH [9] ?_;refine AllReadyH.cons (o:=⟨some 107,_,_,_,_,_⟩) rfl (fun K hK=>?_) AllReadyH.nil;refine step_append_none (by rfl) _ _ _ (by rfl) 0 51 i0 4 Tryz.underlying29 HZI.out.1 (.slice Ad DS.length cd) DS.length (rowD DS) (by rfl) (by first|exact H8.out.1.dg|exact H8.out.1.dg.drew|exact H8.out.1.dg.drew.drew) (by rfl) ?_;refine hK.out _ _ ?_ (fun hHeld2=>?_)
      ·(try dsimp only)
       first|exact y3|exact hk3
      clear hK K hHeld1
      (try go_frame)
      refine tkH 10 108 ?_;refine tkH 11 109 ?_;refine rdyH [12] ?_;refine AllReadyH.cons rfl (fun K hK=>?_) AllReadyH.nil;go_simp;refine hK.out _ _ ?_ (fun hHeld3=>?_)
      ·(try dsimp only)
       first|exact y3|exact hk3
      clear hK K hHeld2
      (try go_frame)
      refine wpAnyH_done (by kernel_rfl) ?_ _;go_wp2
      go_end0
      have hC9:Chg w8 (w8.setCell ⟨rb,3,none⟩ (.slice Ad DS.length cd)) (fun b=>b=rb∨(Value.slice Ad DS.length cd).ownBlock=some b):=(Chg.set w8 ⟨rb,3,none⟩ (.slice Ad DS.length cd)).mono (fun k _ h=>.inl h);have hS9:Chg w8 (w8.setCell ⟨rb,3,none⟩ (.slice Ad DS.length cd)) (fun b=>b=rb):=Chg.set w8 ⟨rb,3,none⟩ (.slice Ad DS.length cd);obtain⟨hq1,hq2⟩:=H8.out.1.toldL (l:=RF) hC9 (by simpa using H8.out.1.hold.set 3 (.slice Ad DS.length cd)) (by
       rw[HR0.out];simpa [rowD] using hS9.owns H8.out.1.dg (fun k hk=>(H8.out.1.oD k hk).2.1)) (fun k hk=>⟨.inl hk,by
       have:=H8.out.1.ltO k (H8.out.1.oD k hk).1
       simpa [World.setCell] using this⟩)
     rotate_left
     focus
      obtain⟨gw,capw,hdw,_⟩:=World.ownsRow.form H8.out.2.2.2.1 (List.length_pos_iff.2 hR0);subst hdw;have hk3:=fun g cap=>cell_far (g:=rb) (i:=3) (j:=3) hBr5 (.slice (some ⟨g,0,none⟩) (DS.length+RF.length) cap) y3
      have hRp:0<RF.length:=List.length_pos_iff.2 hR0;clear hR0;go_wp2;refine wp_region_held_drew (S:=(fun w'=>w'.cell? ⟨B,3,none⟩=some (.slice (some ⟨gw,0,none⟩) RF.length capw))) (by kernel_rfl) ?_ (fun hHeld0=>?_)
      ·(try dsimp only)
       first|exact y3|exact hy9|exact hy10
      refine tkH 0 98 ?_;refine tkH 1 99 ?_;refine tkH 2 100 ?_;refine tkH 3 101 ?_;refine tkH 5 103 ?_;refine tkH 6 104 ?_;refine tkH 7 105 ?_;refine tkH 8 106 ?_;refine rdyH [4] ?_;refine AllReadyH.cons (o:=⟨some 102,_,_,_,_,_⟩) rfl (fun K hK=>?_) AllReadyH.nil;go_simp;refine hK.out _ _ ?_ (fun hHeld1=>?_)
      ·(try dsimp only)
       first|exact y3|exact hy9|exact hy10
      clear hK K hHeld0
      (try go_frame)
      refine rdyH [9] ?_;refine AllReadyH.cons (o:=⟨some 107,_,_,_,_,_⟩) rfl (fun K hK=>?_) AllReadyH.nil;refine step_append_lies _ (by rfl) _ _ _ (by rfl) 0 51 i0 _ 4 48 Tryz.underlying29 HZI.out.1 HZI.out.2.1 HZI.out.2.2.1 HZI.out.2.2.2 rfl (by omega) (.slice Ad DS.length cd) DS.length (rowD DS) (by rfl) (by first|exact H8.out.1.dg|exact H8.out.1.dg.drew|exact H8.out.1.dg.drew.drew)
       ⟨gw,0,none⟩ RF.length capw (rowD RF) (by rfl) (rowD_length RF) (fun j u hu=>H8.out.2.2.2.1.cells (g:=gw) rfl j u hu) (fun u hu=>rowD_one hu)
       hRp (by unfold maxLen;omega) (by omega) (Nat.zero_le _) w8.heap.size (by simp) ?_
      intro g cap w9 ho9 hg9 hat9 hl9;have hC9:Chg w8 w9 (fun b=>(Value.slice Ad DS.length cd).ownBlock=some b):=by
       first
       | exact (Chg.grown hg9).mono (fun _ _ h=>h.symm)
       | exact ((Chg.refl w8 _).drew).trans (Chg.grown hg9) (fun _ _ h=>h.symm)
       | exact ((Chg.refl w8 _).drew.drew).trans (Chg.grown hg9) (fun _ _ h=>h.symm)
      have hat10:(Value.slice Ad DS.length cd).ownBlock=some g∨w8.heap.size≤g:=hat9.imp id (fun e=>by omega);have hwO:(Value.slice Ad DS.length cd).ownBlock≠some B:=fun e=>by
       have h1:=(H8.out.1.oD B e).1;exact hWO5 h1
      have hy9:=hC9.cell (p:=⟨B,3,none⟩) hwO y3;have hh9:=hC9.holds (fun e=>(H8.out.1.oD rb e).2.1 rfl) H8.out.1.hold;have z3:=hh9.free 3;have z4:=hh9.cell 3;simp at z4;have hy10:=cell_far (g:=rb) (i:=3) (j:=3) hBr5 (.slice (some ⟨g,0,none⟩) (DS.length+RF.length) cap) hy9;have H9:=hidH5 hC9 ho9 hat10 hl9 hh9;clear hC9 ho9 hg9 hat9 hat10 hl9 hh9;refine hK.out _ _ ?_ (fun hHeld2=>?_)
      ·(try dsimp only)
       first|exact y3|exact hy9|exact hy10
      clear hK K hHeld1
      (try go_frame)
      refine tkH 10 108 ?_;refine tkH 11 109 ?_;refine rdyH [12] ?_;refine AllReadyH.cons rfl (fun K hK=>?_) AllReadyH.nil;go_simp;refine hK.out _ _ ?_ (fun hHeld3=>?_)
      ·(try dsimp only)
       first|exact y3|exact hy9|exact hy10
      clear hK K hHeld2
      (try go_frame)
      refine wpAnyH_done (by kernel_rfl) ?_ _;go_wp2
      go_end0
      have hS9:Chg w9 (w9.setCell ⟨rb,3,none⟩ (.slice (some ⟨g,0,none⟩) (DS.length+RF.length) cap)) (fun b=>b=rb):=Chg.set w9 ⟨rb,3,none⟩ (.slice (some ⟨g,0,none⟩) (DS.length+RF.length) cap);have hall:Chg w8 (w9.setCell ⟨rb,3,none⟩ (.slice (some ⟨g,0,none⟩) (DS.length+RF.length) cap)) (fun b=>b=rb∨(Value.slice Ad DS.length cd).ownBlock=some b):=(H9.out.1.mono (T:=fun b=>b=rb∨(Value.slice Ad DS.length cd).ownBlock=some b) (fun k _ h=>.inr h)).trans hS9 (fun k _ h=>.inl h);have hgr:g≠rb:=by
       rcases H9.out.2.2.1 with e|e
       ·exact (H8.out.1.oD g e).2.1
       ·omega
      obtain⟨hq1,hq2⟩:=H8.out.1.toldL (l:=RF) hall (by simpa using H9.out.2.2.2.2.set 3 (.slice (some ⟨g,0,none⟩) (DS.length+RF.length) cap)) (hS9.owns H9.out.2.1 (fun k hk e=>by
       have e2:g=k:=by simpa [Value.ownBlock] using hk
       exact hgr (e2.trans e))) (fun k hk=>by
       have e2:g=k:=by simpa [Value.ownBlock] using hk
       rw[←e2];exact⟨H9.out.2.2.1,by have:=H9.out.2.2.2.1;simpa [World.setCell] using this⟩)
     rotate_left
     all_goals
      first
      | exact⟨rfl,_,_,_,_,by rw[HFIN.out];exact hq1,H8.out.2.1.trans hq2⟩
      | exact⟨rfl,_,_,_,_,by rw[HFIN.out];exact hq1.chg ((Chg.refl _ (fun _=>False)).drew) (fun _ _ h=>h) (fun _ _ h=>h),(H8.out.2.1.trans hq2).trans ⟨(Chg.refl _ _).drew,fun _ h=>.inl h,fun _ h=>.inl h,fun _ h=>h⟩⟩
def RdPost (w:World) (O F:Nat→Prop) (rb:Nat) (lv:Value) (pos:Nat) (bs:List Bl) (ds:List Dg) (r:Told) (w':World):Prop :=
 ∃O' F' bv' dv',Rdr w' O' F' rb lv (pos+r.1) bv' (bs++r.2.1) dv' (ds++r.2.2)∧Turn w w' O F O' F'
theorem hasP_len {s p:Bs} (h:Lib.hasPrefix s p=true):p.length≤s.length:=by
 unfold Lib.hasPrefix at h;have:=List.isPrefixOf_iff_prefix.1 h
 exact this.length_le
theorem code_shift (ls:List Ln) (pos:Nat):codeN (ls.drop pos) 0=codeN ls pos∧codeT (ls.drop pos) 0=codeT ls pos:=by unfold codeT codeN;rw[List.drop_zero];exact⟨rfl,rfl⟩
theorem para_shift (ls:List Ln) (pos:Nat) (s:ByteArray):paraB (ls.drop pos) 0 s=paraB ls pos s:=by unfold paraB paraT;rw[List.drop_zero]
theorem tail_len (r:List Ln):(Lib.joinTail [32] (r.map fun x=>trim x.text.data.toList)).length≤wtX r:=by
 induction r with
 | nil=>simp[Lib.joinTail,wtX]
 | cons x r ih =>
  have:=trim_size x.text
  simp only[Lib.joinTail,List.map_cons,List.flatten_cons,List.length_append,List.length_cons,List.length_nil,wtX] at ih ⊢;omega
theorem paraB_len (ls:List Ln) (pos:Nat) (s:ByteArray):(paraB ls pos s).length≤s.size+wtX (ls.drop pos):=by
 have h1:=tail_len ((ls.drop pos).take (untilN (fun t=>!plainL t) (ls.drop pos)));have h2:=untilN_take (fun t=>!plainL t) (ls.drop pos);unfold paraB paraT;rw[Lib.join_cons,List.length_append,←size_list];omega
theorem endN_if (pos k n:Nat) (h:pos≤n):pos+endN k (n-pos)=if pos+k<n then pos+k+1 else pos+k:=by unfold endN;split<;>split<;>omega
theorem ends_if {α:Type} (pos k n:Nat) (h:pos≤n) (a b:α):(if k<n-pos then a else b)=if pos+k<n then a else b:=by split<;>split<;>first|rfl|omega
theorem read_head {w:World}{O F:Nat→Prop}{rb:Nat}{lv:Value}{pos:Nat}{bv:Value}{bs:List Bl}{dv:Value}{ds:List Dg} (h:Rdr w O F rb lv pos bv bs dv ds) (f t:ByteArray) (no:Int) (s:ByteArray) (hs:s.size≤100000000){m:Int} (hm:Glob m w) (h3:∀k,O k→3≤k)
  (hl:bs.length≤1000000000) (hd:ds.length+10+s.size≤1000000000) (hA:0<(leadB s.data.toList 61).1) :
  Calls Tryz.prog 41 #[.pointer (some ⟨rb,0,none⟩),.agg #[.string f,.int .i64 no,.string t],.string s] w fun e w'=>e=.returned (.tuple #[])∧RdPost w O F rb lv pos bs ds (headR f no s) w':=by
 have hll:=lead_le s.data.toList 61;have hl1:=leading_any s 61 (w.alloc (.cells #[.string f,.int .i64 no,.string t] 98)) hs;unfold RdPost headR;obtain⟨A,hA0⟩:∃A,leadB s.data.toList 61=A:=⟨_,rfl⟩;rw[hA0] at hl1 hA hll ⊢;simp only[];obtain⟨lv1,bh⟩:=A;simp only at hl1 hA hll ⊢;unfold strV at hl1;have e61:(((61:UInt8).toNat:Nat):Int)=61:=rfl;rw[e61] at hl1;rw[←size_list] at hll;have hb:=(Below.refl w.heap.size w).alloc (Nat.le_refl _) (.cells #[.string f,.int .i64 no,.string t] 98);have hX:=Holds.new w 98 #[.string f,.int .i64 no,.string t];have HR:=hidH4 h hb hX hm;have hA1:(0:Int)<(lv1:Int):=by omega
 obtain⟨bt,hbt⟩:∃bt:ByteArray,⟨bh.toArray⟩=bt:=⟨_,rfl⟩;have hbz:bt.size≤s.size:=by rw[←hbt,size_mk];exact hll
 rw[hbt] at hl1 ⊢;have hfl:(faultsOf (titleB bt.data.toList).1).length≤s.size:=by
  have h1:=faults_le (titleB bt.data.toList).1;have h2:=titleB_le bt.data.toList;rw[←size_list] at h2;omega
 clear h hb hX hm e61 hA0 hA hbt
 go_enter Tryz.func41,Tryz.ntmps41
 go_wp2_with fail
 refine hl1.mono ?_;clear hl1;rintro e w1 ⟨rfl,hb1⟩;have hB1:Below w.heap.size w w1:=HR.out.2.1.trans (hb1.mono (by simp));have hX1:=HR.out.2.2.1.below hb1 HR.out.2.2.1.lt;have hB2:Below w.heap.size w (w1.alloc (.cells #[.int .u8 1,.int .i64 (lv1:Int),.bool false,.string ⟨#[]⟩,.string ⟨#[]⟩,.slice none 0 0,.slice none 0 0,.string ⟨#[]⟩,.int .i64 0] 62)):=hB1.alloc hB1.size _;have hX2:=hX1.alloc (.cells #[.int .u8 1,.int .i64 (lv1:Int),.bool false,.string ⟨#[]⟩,.string ⟨#[]⟩,.slice none 0 0,.slice none 0 0,.string ⟨#[]⟩,.int .i64 0] 62);obtain⟨d0,d1,d2⟩:=cells3 hX2;have CT:=titled_any (HR.out.1.below hB2) ⟨1,lv1,false,⟨#[]⟩,⟨#[]⟩,[],[],⟨#[]⟩,0⟩ (.slice none 0 0) (rows_nil _ _) f t no bt (by omega) (HR.out.2.2.2.chg (Chg.below hB2 (fun _=>False)) (fun _ h=>h.elim)) h3 hl (by omega);have e1:((1:Nat):Int)=1:=rfl;simp only[e1] at CT;have HT:Hid (Turn w _ O F O F):=Lib.hid ⟨Chg.below hB2 O,fun _ h=>.inl h,fun _ h=>.inl h,fun _ h=>h⟩;clear hB1 hX1 hB2 hX2 e1 hb1
 go_wp2_with fail
 refine CT.mono ?_;clear CT;rintro e w3 ⟨rfl,O3,F3,bv3,dv3,hr3,ht3⟩;have H3:=hidH2 hr3 ht3;clear hr3 ht3;go_wp2
 (try simp only[Exit.inBlock,Exit.then])
 refine bodyPost_ret (results_none rfl _ _ _) rfl ?_;exact⟨rfl,O3,F3,bv3,dv3,H3.out.1,HT.out.trans H3.out.2⟩
theorem read_item {w:World}{O F:Nat→Prop}{rb:Nat}{lv:Value}{pos:Nat}{bv:Value}{bs:List Bl}{dv:Value}{ds:List Dg} (h:Rdr w O F rb lv pos bv bs dv ds) (f t:ByteArray) (no:Int) (s:ByteArray) (hs:s.size≤100000000){m:Int} (hm:Glob m w) (h3:∀k,O k→3≤k)
  (hl:bs.length≤1000000000) (hd:ds.length+10+s.size≤1000000000) (hA:¬0<(leadB s.data.toList 61).1) (hI:0<(itemB s.data.toList).1) :
  Calls Tryz.prog 41 #[.pointer (some ⟨rb,0,none⟩),.agg #[.string f,.int .i64 no,.string t],.string s] w fun e w'=>e=.returned (.tuple #[])∧RdPost w O F rb lv pos bs ds (itemR f no s) w':=by
 have hl1:=leading_any s 61 (w.alloc (.cells #[.string f,.int .i64 no,.string t] 98)) hs;have hit:=fun W=>item_any s W hs
 obtain⟨A,hA0⟩:∃A,leadB s.data.toList 61=A:=⟨_,rfl⟩;rw[hA0] at hl1 hA;obtain⟨lv1,bh⟩:=A;simp only at hl1 hA;obtain rfl:lv1=0:=by omega
 unfold strV at hl1;have e61:(((61:UInt8).toNat:Nat):Int)=61:=rfl;rw[e61] at hl1;have e0:((0:Nat):Int)=0:=rfl;rw[e0] at hl1;have hb:=(Below.refl w.heap.size w).alloc (Nat.le_refl _) (.cells #[.string f,.int .i64 no,.string t] 98);have hX:=Holds.new w 98 #[.string f,.int .i64 no,.string t];unfold RdPost itemR;have hiz:(itemB s.data.toList).2.2.length≤s.size:=by
  have h1:=trim_size s;unfold itemB;split
  ·exact Nat.le_trans (lead_le _ _) h1
  ·split
   ·exact Nat.le_trans (lead_le _ _) h1
   ·simp
 obtain⟨I,hI0⟩:∃I,itemB s.data.toList=I:=⟨_,rfl⟩;rw[hI0] at hit hI hiz ⊢;obtain⟨lvl,ord,it⟩:=I;simp only at hit hI hiz ⊢;unfold strV at hit;have hd1:it=(⟨it.toArray⟩:ByteArray).data.toList:=by simp
 rw[hd1];obtain⟨bt,hbt⟩:∃bt:ByteArray,⟨it.toArray⟩=bt:=⟨_,rfl⟩;have hbz:bt.size≤s.size:=by rw[←hbt,size_mk];exact hiz
 rw[hbt] at hit ⊢;have hfl:(faultsOf bt.data.toList).length≤s.size:=by
  have h1:=faults_le bt.data.toList;rw[←size_list] at h1;omega
 have hI1:(0:Int)<(lvl:Int):=by omega
 have hxl:=hX.lt;obtain⟨n,hn⟩:∃n,w.heap.size=n:=⟨_,rfl⟩;have hnO:¬O n:=fun e=>by have:=h.ltO n e;omega
 have HR:=hidH4 h hb hX hm;clear h hb hX hm e61 hA0 hA hI hI0 hd1 hbt e0
 go_enter Tryz.func41,Tryz.ntmps41
 go_wp2_with fail
 refine hl1.mono ?_;clear hl1;rintro e w1 ⟨rfl,hb1⟩;have hB1:Below w.heap.size w w1:=HR.out.2.1.trans (hb1.mono (by simp));have hX1:=HR.out.2.2.1.below hb1 HR.out.2.2.1.lt
 go_wp2_with fail
 refine (hit _).mono ?_;clear hit;rintro e w2 ⟨rfl,hb2⟩;have hB2:Below w.heap.size w w2:=hB1.trans (hb2.mono hB1.size);have hX2:=hX1.below hb2 hX1.lt;have hB3:Below w.heap.size w (w2.alloc (.cells #[.int .u8 3,.int .i64 (lvl:Int),.bool ord,.string ⟨#[]⟩,.string ⟨#[]⟩,.slice none 0 0,.slice none 0 0,.string ⟨#[]⟩,.int .i64 0] 62)):=hB2.alloc hB2.size _;have hX3:=hX2.alloc (.cells #[.int .u8 3,.int .i64 (lvl:Int),.bool ord,.string ⟨#[]⟩,.string ⟨#[]⟩,.slice none 0 0,.slice none 0 0,.string ⟨#[]⟩,.int .i64 0] 62);have hN3:=Holds.new w2 62 #[.int .u8 3,.int .i64 (lvl:Int),.bool ord,.string ⟨#[]⟩,.string ⟨#[]⟩,.slice none 0 0,.slice none 0 0,.string ⟨#[]⟩,.int .i64 0];obtain⟨d0,d1,d2⟩:=cells3 hX3;have hr3:=HR.out.1.below hB3;have hnl2:=hX2.lt;have CS:=bspans_any hr3 f t no bt (by omega) (HR.out.2.2.2.chg (Chg.below hB3 (fun _=>False)) (fun _ h=>h.elim)) (by omega);have hbO:¬O w2.heap.size:=fun e=>by have:=HR.out.1.ltO _ e;have:=hB2.size;omega
 have hbF:¬F w2.heap.size:=fun e=>by have:=HR.out.1.ltF _ e;have:=hB2.size;omega
 have hbn:w.heap.size≤w2.heap.size:=hB2.size;have hT3:Turn w _ O F O F:=⟨Chg.below hB3 O,fun _ h=>.inl h,fun _ h=>.inl h,fun _ h=>h⟩;obtain⟨nb,hnb⟩:∃nb,w2.heap.size=nb:=⟨_,rfl⟩;rw[hnb] at hN3 hbO hbF hbn;rw[hn] at hX3 d0 d1 d2 hnl2;have hne:n≠nb:=by omega
 have HN:=hidH2 hnb hn;have H3:=hidH3 hX3 hN3 hT3;clear hB1 hX1 hB2 hX2 hB3 hX3 hN3 hr3 hT3 hb1 hb2 hnb hn
 (try rw[HN.out.2])
 go_wp2_with fail
 refine CS.mono ?_;clear CS d0 d1 d2;rintro e w4 ⟨sv,O2,F2,dv2,rfl,hfo,hr4,ht4⟩
 (try rw[HN.out.1])
 (try rw[HN.out.2])
 obtain⟨As,cs,rfl,_⟩:=hfo.form;have hnl3:=H3.out.2.1.lt;have hX4:=ht4.chg.holds hnO H3.out.1;have hN4:=ht4.chg.holds hbO H3.out.2.1;have hbO2:=ht4.offO hnl3 hbO;have hbF2:=ht4.offF hnl3 hbF;have c5:=hN4.cell 5;have x5:=hN4.free 5;have hC6:Chg w4 (w4.setCell ⟨nb,5,none⟩ (.slice As (spansOf bt.data.toList).length cs)) (fun k=>k=nb):=Chg.set w4 ⟨nb,5,none⟩ (.slice As (spansOf bt.data.toList).length cs);have hr6:=hr4.chg hC6 (fun k hk e=>hbO2 (e ▸ hk)) (fun k hk e=>hbF2 (e ▸ hk));have hfo6:=hfo.chg hC6 (fun _ h=>h) (fun k hk e=>hbF2 (e ▸ hk));have hN6:=hN4.set 5 (.slice As (spansOf bt.data.toList).length cs);have hX6:=hX4.far (p:=⟨nb,5,none⟩) hne (.slice As (spansOf bt.data.toList).length cs);simp only[List.setIfInBounds_toArray,List.set_cons_succ,List.set_cons_zero] at hN6;obtain⟨b0,b1,b2,b3,b4,b5,b6,b7,b8⟩:=cells9 hN6;obtain⟨q0,q1,q2⟩:=cells3 hX6;have CA:=badd_any hr6 ⟨3,lvl,ord,⟨#[]⟩,⟨#[]⟩,spansOf bt.data.toList,[],f,no⟩ (.slice As (spansOf bt.data.toList).length cs) (.slice none 0 0) ⟨hfo6,rows_nil _ _⟩ f t ⟨#[]⟩ no 0 hl rfl rfl;have e3:((3:Nat):Int)=3:=rfl;simp only[e3] at CA;have H6:=hidH2 ht4 hC6;clear e3 hr6 hfo6 hN6 hX6 hX4 hN4 hfo hr4 ht4 hC6 hnl3
 go_wp2_with fail
 refine CA.mono ?_;clear CA;rintro e W7 ⟨rfl,O3,bv3,hr7,ht7⟩;have H7:=hidH2 hr7 ht7;clear hr7 ht7;go_wp2
 (try simp only[Exit.inBlock,Exit.then])
 refine bodyPost_ret (results_none rfl _ _ _) rfl ?_;exact⟨rfl,O3,F2,bv3,dv2,H7.out.1,((H3.out.2.2.trans H6.out.1).poke H6.out.2 (by omega)).trans H7.out.2⟩
theorem read_none {w:World}{O F:Nat→Prop}{rb:Nat}{lv:Value}{pos:Nat}{bv:Value}{bs:List Bl}{dv:Value}{ds:List Dg} (h:Rdr w O F rb lv pos bv bs dv ds) (f t:ByteArray) (no:Int) (s:ByteArray) (hs:s.size≤100000000){m:Int} (hm:Glob m w) (h3:∀k,O k→3≤k)
  (hl:bs.length≤1000000000) (hd:ds.length+10+s.size≤1000000000) (hA:¬0<(leadB s.data.toList 61).1) (hI:¬0<(itemB s.data.toList).1) (h0:s.data.toList=[]) :
  Calls Tryz.prog 41 #[.pointer (some ⟨rb,0,none⟩),.agg #[.string f,.int .i64 no,.string t],.string s] w fun e w'=>e=.returned (.tuple #[])∧RdPost w O F rb lv pos bs ds ((0,[],[]):Told) w':=by
 have hl1:=leading_any s 61 (w.alloc (.cells #[.string f,.int .i64 no,.string t] 98)) hs;have hit:=fun W=>item_any s W hs
 obtain⟨A,hA0⟩:∃A,leadB s.data.toList 61=A:=⟨_,rfl⟩;rw[hA0] at hl1 hA;obtain⟨lv1,bh⟩:=A;simp only at hl1 hA;obtain rfl:lv1=0:=by omega
 unfold strV at hl1;have e61:(((61:UInt8).toNat:Nat):Int)=61:=rfl;rw[e61] at hl1;have e0:((0:Nat):Int)=0:=rfl;rw[e0] at hl1;have hb:=(Below.refl w.heap.size w).alloc (Nat.le_refl _) (.cells #[.string f,.int .i64 no,.string t] 98);have hX:=Holds.new w 98 #[.string f,.int .i64 no,.string t];unfold RdPost;obtain⟨I,hI0⟩:∃I,itemB s.data.toList=I:=⟨_,rfl⟩;rw[hI0] at hit hI;obtain⟨lvl,ord,it⟩:=I;simp only at hit hI;obtain rfl:lvl=0:=by omega
 rw[e0] at hit;unfold strV at hit;obtain rfl:s=⟨#[]⟩:=ba_ext (by rw[h0]);have HR:=hidH4 h hb hX hm;clear h hb hX hm e61 hA0 hA hI hI0 e0 h0
 go_enter Tryz.func41,Tryz.ntmps41
 go_wp2_with fail
 refine hl1.mono ?_;clear hl1;rintro e w1 ⟨rfl,hb1⟩;have hB1:Below w.heap.size w w1:=HR.out.2.1.trans (hb1.mono (by simp));have hX1:=HR.out.2.2.1.below hb1 HR.out.2.2.1.lt
 go_wp2_with fail
 refine (hit _).mono ?_;clear hit;rintro e w2 ⟨rfl,hb2⟩;have hB2:Below w.heap.size w w2:=hB1.trans (hb2.mono hB1.size);have hX2:=hX1.below hb2 hX1.lt;have H2:=Lib.hid hB2;clear hB1 hX1 hB2 hX2 hb1 hb2;go_wp2
 go_end0
 exact⟨rfl,O,F,bv,dv,by simpa using HR.out.1.below H2.out,Chg.below H2.out O,fun _ h=>.inl h,fun _ h=>.inl h,fun _ h=>h⟩
theorem read_code {w:World}{O F:Nat→Prop}{rb:Nat}{lv:Value}{pos:Nat}{bv:Value}{bs:List Bl}{dv:Value}{ds:List Dg} (h:Rdr w O F rb lv pos bv bs dv ds) (f t:ByteArray) (no:Int) (s:ByteArray) (hs:s.size≤100000000){m:Int} (hm:Glob m w) (h3:∀k,O k→3≤k)
  (hl:bs.length≤1000000000) (hd:ds.length+10+s.size≤1000000000) (hA:¬0<(leadB s.data.toList 61).1) (hI:¬0<(itemB s.data.toList).1) (h0:s.data.toList=fenceL) {L:Nat→Prop} {ls:List Ln} (hL:LinesAt w L lv ls) (hLO:∀k,L k→¬O k) (hLl:∀k,L k→k<w.heap.size) (hsz:∀x∈ls,x.text.size≤100000000) (hp:pos≤ls.length) (hn:ls.length≤1000000) (hwt:s.size+wtX (ls.drop pos)≤100000000) (hd2:ds.length+10+s.size+wtX (ls.drop pos)≤1000000000) :
  Calls Tryz.prog 41 #[.pointer (some ⟨rb,0,none⟩),.agg #[.string f,.int .i64 no,.string t],.string s] w fun e w'=>e=.returned (.tuple #[])∧RdPost w O F rb lv pos bs ds (codeR f no s (ls.drop pos)) w':=by
 have hl1:=leading_any s 61 (w.alloc (.cells #[.string f,.int .i64 no,.string t] 98)) hs;have hit:=fun W=>item_any s W hs
 obtain⟨A,hA0⟩:∃A,leadB s.data.toList 61=A:=⟨_,rfl⟩;rw[hA0] at hl1 hA;obtain⟨lv1,bh⟩:=A;simp only at hl1 hA;obtain rfl:lv1=0:=by omega
 unfold strV at hl1;have e61:(((61:UInt8).toNat:Nat):Int)=61:=rfl;rw[e61] at hl1;have e0:((0:Nat):Int)=0:=rfl;rw[e0] at hl1;have hb:=(Below.refl w.heap.size w).alloc (Nat.le_refl _) (.cells #[.string f,.int .i64 no,.string t] 98);have hX:=Holds.new w 98 #[.string f,.int .i64 no,.string t];unfold RdPost;obtain⟨I,hI0⟩:∃I,itemB s.data.toList=I:=⟨_,rfl⟩;rw[hI0] at hit hI;obtain⟨lvl,ord,it⟩:=I;simp only at hit hI;obtain rfl:lvl=0:=by omega
 rw[e0] at hit;unfold strV at hit;obtain rfl:s=⟨#[45,45,45,45]⟩:=ba_ext (by rw[h0];rfl);have HR:=hidH4 h hb hX hm;have hL1:=fun W (hW:Below w.heap.size w W)=>hL.chg (Chg.below hW (fun _=>False)) (fun _ _ h=>h)
 have HL:=hidH2 hL1 hLl;clear h hb hX hm e61 hA0 hA hI hI0 e0 h0 hL1
 go_enter Tryz.func41,Tryz.ntmps41
 go_wp2_with fail
 refine hl1.mono ?_;clear hl1;rintro e w1 ⟨rfl,hb1⟩;have hB1:Below w.heap.size w w1:=HR.out.2.1.trans (hb1.mono (by simp));have hX1:=HR.out.2.2.1.below hb1 HR.out.2.2.1.lt
 go_wp2_with fail
 refine (hit _).mono ?_;clear hit;rintro e w2 ⟨rfl,hb2⟩;have hB2:Below w.heap.size w w2:=hB1.trans (hb2.mono hB1.size);have hX2:=hX1.below hb2 hX1.lt;have hL2:=HL.out.1 w2 hB2;have CC:=bcode_any (HR.out.1.below hB2) hL2 hLO (fun k hk=>Nat.lt_of_lt_of_le (HL.out.2 k hk) hB2.size) hsz hp hn f t no ⟨#[45,45,45,45]⟩ hl (by omega);obtain⟨d0,d1,d2⟩:=cells3 hX2;have HT:Hid (Turn w w2 O F O F):=Lib.hid ⟨Chg.below hB2 O,fun _ h=>.inl h,fun _ h=>.inl h,fun _ h=>h⟩;clear hB1 hX1 hB2 hX2 hb1 hb2 hL2
 go_wp2_with fail
 refine CC.mono ?_;clear CC;rintro e w3 ⟨rfl,O3,bv3,dv3,hr3,ht3⟩;have H3:=hidH2 hr3 ht3;clear hr3 ht3;go_wp2
 go_end0
 refine⟨rfl,O3,F,bv3,dv3,?_,HT.out.trans H3.out.2⟩;unfold codeR;rw[(code_shift ls pos).1,(code_shift ls pos).2,List.length_drop];simp only[];rw[endN_if pos _ _ hp,ends_if pos _ _ hp];exact H3.out.1
theorem read_table {w:World}{O F:Nat→Prop}{rb:Nat}{lv:Value}{pos:Nat}{bv:Value}{bs:List Bl}{dv:Value}{ds:List Dg} (h:Rdr w O F rb lv pos bv bs dv ds) (f t:ByteArray) (no:Int) (s:ByteArray) (hs:s.size≤100000000){m:Int} (hm:Glob m w) (h3:∀k,O k→3≤k)
  (hl:bs.length≤1000000000) (hd:ds.length+10+s.size≤1000000000) (hA:¬0<(leadB s.data.toList 61).1) (hI:¬0<(itemB s.data.toList).1) (h0:¬s.data.toList=[]) (h4:¬s.data.toList=fenceL) (hpf:Lib.hasPrefix s.data.toList barsL=true) {L:Nat→Prop} {ls:List Ln} (hL:LinesAt w L lv ls) (hLO:∀k,L k→¬O k) (hLl:∀k,L k→k<w.heap.size) (hsz:∀x∈ls,x.text.size≤100000000) (hp:pos≤ls.length) (hn:ls.length≤1000000) (hwt:s.size+wtX (ls.drop pos)≤100000000) (hd2:ds.length+10+s.size+wtX (ls.drop pos)≤1000000000) :
  Calls Tryz.prog 41 #[.pointer (some ⟨rb,0,none⟩),.agg #[.string f,.int .i64 no,.string t],.string s] w fun e w'=>e=.returned (.tuple #[])∧RdPost w O F rb lv pos bs ds (tableR f no s (ls.drop pos)) w':=by
 have hl1:=leading_any s 61 (w.alloc (.cells #[.string f,.int .i64 no,.string t] 98)) hs;have hit:=fun W=>item_any s W hs
 obtain⟨A,hA0⟩:∃A,leadB s.data.toList 61=A:=⟨_,rfl⟩;rw[hA0] at hl1 hA;obtain⟨lv1,bh⟩:=A;simp only at hl1 hA;obtain rfl:lv1=0:=by omega
 unfold strV at hl1;have e61:(((61:UInt8).toNat:Nat):Int)=61:=rfl;rw[e61] at hl1;have e0:((0:Nat):Int)=0:=rfl;rw[e0] at hl1;have hb:=(Below.refl w.heap.size w).alloc (Nat.le_refl _) (.cells #[.string f,.int .i64 no,.string t] 98);have hX:=Holds.new w 98 #[.string f,.int .i64 no,.string t];unfold RdPost;obtain⟨I,hI0⟩:∃I,itemB s.data.toList=I:=⟨_,rfl⟩;rw[hI0] at hit hI;obtain⟨lvl,ord,it⟩:=I;simp only at hit hI;obtain rfl:lvl=0:=by omega
 rw[e0] at hit;unfold strV at hit;have n0:(s.toList==([]:Bs))=false:=by rw[ByteArray.toList_eq];exact beq_eq_false_iff_ne.2 h0
 have n4:(s.toList==([45,45,45,45]:Bs))=false:=by rw[ByteArray.toList_eq];exact beq_eq_false_iff_ne.2 h4
 have n00:s.toList.isEmpty=false:=ba_nonempty (fun e=>h0 (by rw[e]));have hcp:=fun W=>Tryz.strings_HasPrefix s ⟨#[124,61,61,61]⟩ W
 have eb:(⟨#[124,61,61,61]⟩:ByteArray).data.toList=barsL:=rfl;rw[eb,hpf] at hcp;have hs4:4≤s.size:=by have:=hasP_len hpf;rw[←size_list] at this;exact this
 have HR:=hidH4 h hb hX hm;have hL1:=fun W (hW:Below w.heap.size w W)=>hL.chg (Chg.below hW (fun _=>False)) (fun _ _ h=>h)
 have HL:=hidH2 hL1 hLl;clear h hb hX hm e61 hA0 hA hI hI0 e0 h0 h4 hL1 eb hpf
 go_enter Tryz.func41,Tryz.ntmps41
 go_wp2_with fail
 refine hl1.mono ?_;clear hl1;rintro e w1 ⟨rfl,hb1⟩;have hB1:Below w.heap.size w w1:=HR.out.2.1.trans (hb1.mono (by simp));have hX1:=HR.out.2.2.1.below hb1 HR.out.2.2.1.lt
 go_wp2_with fail
 refine (hit _).mono ?_;clear hit;rintro e w2 ⟨rfl,hb2⟩;have hB2:Below w.heap.size w w2:=hB1.trans (hb2.mono hB1.size);have hX2:=hX1.below hb2 hX1.lt;have hL2:=HL.out.1 w2 hB2;have CC:=table_any (HR.out.1.below hB2) hL2 hLO (fun k hk=>Nat.lt_of_lt_of_le (HL.out.2 k hk) hB2.size) hsz hp hn f t no s hs hs4 (HR.out.2.2.2.chg (Chg.below hB2 (fun _=>False)) (fun _ h=>h.elim)) h3 (by omega) hl (by omega);obtain⟨d0,d1,d2⟩:=cells3 hX2;have HT:Hid (Turn w w2 O F O F):=Lib.hid ⟨Chg.below hB2 O,fun _ h=>.inl h,fun _ h=>.inl h,fun _ h=>h⟩;clear hB1 hX1 hB2 hX2 hb1 hb2 hL2
 go_wp2_with (go_at_call 77;refine (hcp _).mono ?_;rintro e w5 ⟨rfl,hw5⟩;subst hw5)
 refine CC.mono ?_;clear CC;rintro e w3 ⟨rfl,O3,F3,bv3,dv3,hr3,ht3⟩;have H3:=hidH2 hr3 ht3;clear hr3 ht3;go_wp2
 go_end0
 exact⟨rfl,O3,F3,bv3,dv3,H3.out.1,HT.out.trans H3.out.2⟩
theorem read_para {w:World}{O F:Nat→Prop}{rb:Nat}{lv:Value}{pos:Nat}{bv:Value}{bs:List Bl}{dv:Value}{ds:List Dg} (h:Rdr w O F rb lv pos bv bs dv ds) (f t:ByteArray) (no:Int) (s:ByteArray) (hs:s.size≤100000000){m:Int} (hm:Glob m w) (h3:∀k,O k→3≤k)
  (hl:bs.length≤1000000000) (hd:ds.length+10+s.size≤1000000000) (hA:¬0<(leadB s.data.toList 61).1) (hI:¬0<(itemB s.data.toList).1) (h0:¬s.data.toList=[]) (h4:¬s.data.toList=fenceL) (hpf:Lib.hasPrefix s.data.toList barsL=false) {L:Nat→Prop} {ls:List Ln} (hL:LinesAt w L lv ls) (hLO:∀k,L k→¬O k) (hLl:∀k,L k→k<w.heap.size) (hsz:∀x∈ls,x.text.size≤100000000) (hp:pos≤ls.length) (hn:ls.length≤1000000) (hwt:s.size+wtX (ls.drop pos)≤100000000) (hd2:ds.length+10+s.size+wtX (ls.drop pos)≤1000000000) :
  Calls Tryz.prog 41 #[.pointer (some ⟨rb,0,none⟩),.agg #[.string f,.int .i64 no,.string t],.string s] w fun e w'=>e=.returned (.tuple #[])∧RdPost w O F rb lv pos bs ds (paraR f no s (ls.drop pos)) w':=by
 have hl1:=leading_any s 61 (w.alloc (.cells #[.string f,.int .i64 no,.string t] 98)) hs;have hit:=fun W=>item_any s W hs
 obtain⟨A,hA0⟩:∃A,leadB s.data.toList 61=A:=⟨_,rfl⟩;rw[hA0] at hl1 hA;obtain⟨lv1,bh⟩:=A;simp only at hl1 hA;obtain rfl:lv1=0:=by omega
 unfold strV at hl1;have e61:(((61:UInt8).toNat:Nat):Int)=61:=rfl;rw[e61] at hl1;have e0:((0:Nat):Int)=0:=rfl;rw[e0] at hl1;have hb:=(Below.refl w.heap.size w).alloc (Nat.le_refl _) (.cells #[.string f,.int .i64 no,.string t] 98);have hX:=Holds.new w 98 #[.string f,.int .i64 no,.string t];unfold RdPost;obtain⟨I,hI0⟩:∃I,itemB s.data.toList=I:=⟨_,rfl⟩;rw[hI0] at hit hI;obtain⟨lvl,ord,it⟩:=I;simp only at hit hI;obtain rfl:lvl=0:=by omega
 rw[e0] at hit;unfold strV at hit;have n0:(s.toList==([]:Bs))=false:=by rw[ByteArray.toList_eq];exact beq_eq_false_iff_ne.2 h0
 have n4:(s.toList==([45,45,45,45]:Bs))=false:=by rw[ByteArray.toList_eq];exact beq_eq_false_iff_ne.2 h4
 have n00:s.toList.isEmpty=false:=ba_nonempty (fun e=>h0 (by rw[e]));have hcp:=fun W=>Tryz.strings_HasPrefix s ⟨#[124,61,61,61]⟩ W
 have eb:(⟨#[124,61,61,61]⟩:ByteArray).data.toList=barsL:=rfl;rw[eb,hpf] at hcp;have hpl:=paraB_len ls pos s;have hpf2:=faults_le (paraB ls pos s);have HR:=hidH4 h hb hX hm;have hL1:=fun W (hW:Below w.heap.size w W)=>hL.chg (Chg.below hW (fun _=>False)) (fun _ _ h=>h)
 have HL:=hidH2 hL1 hLl;clear h hb hX hm e61 hA0 hA hI hI0 e0 h0 h4 hL1 eb hpf
 go_enter Tryz.func41,Tryz.ntmps41
 go_wp2_with fail
 refine hl1.mono ?_;clear hl1;rintro e w1 ⟨rfl,hb1⟩;have hB1:Below w.heap.size w w1:=HR.out.2.1.trans (hb1.mono (by simp));have hX1:=HR.out.2.2.1.below hb1 HR.out.2.2.1.lt
 go_wp2_with fail
 refine (hit _).mono ?_;clear hit;rintro e w2 ⟨rfl,hb2⟩;have hB2:Below w.heap.size w w2:=hB1.trans (hb2.mono hB1.size);have hX2:=hX1.below hb2 hX1.lt;have hL2:=HL.out.1 w2 hB2;have CC:=para_any (HR.out.1.below hB2) hL2 hLO (fun k hk=>Nat.lt_of_lt_of_le (HL.out.2 k hk) hB2.size) hsz hp hn f t no s (HR.out.2.2.2.chg (Chg.below hB2 (fun _=>False)) (fun _ h=>h.elim)) h3 hl (by omega) (by omega);obtain⟨d0,d1,d2⟩:=cells3 hX2;have HT:Hid (Turn w w2 O F O F):=Lib.hid ⟨Chg.below hB2 O,fun _ h=>.inl h,fun _ h=>.inl h,fun _ h=>h⟩;clear hB1 hX1 hB2 hX2 hb1 hb2 hL2
 go_wp2_with (go_at_call 77;refine (hcp _).mono ?_;rintro e w5 ⟨rfl,hw5⟩;subst hw5)
 refine CC.mono ?_;clear CC;rintro e w3 ⟨rfl,O3,F3,bv3,dv3,hr3,ht3⟩;have H3:=hidH2 hr3 ht3;clear hr3 ht3;go_wp2
 go_end0
 refine⟨rfl,O3,F3,bv3,dv3,?_,HT.out.trans H3.out.2⟩;unfold paraR;rw[para_shift];exact H3.out.1
end Go.Proofs.YtkkebmciiiajeaaGreatDoor
namespace Go.Bd
open Go.RowKit Go.Maps Go.WideMaps
def heldR:Value→Option (DataW Value×List MemPlace):=fun v=>some (.held v,[])
def nameL (s:ByteArray):Lit:=.string s.data.toList
structure Fe where
 name:ByteArray
 v:Value
 c:Bs
def findF (es:List Fe) (s:ByteArray):Option Fe:=es.find? (fun e=>decide (e.name=s))
def delF (es:List Fe) (s:ByteArray):List Fe:=es.filter (fun e=>!decide (e.name=s))
def putF (es:List Fe) (e:Fe):List Fe:=delF es e.name++[e]
theorem findF_del_same (es:List Fe) (s:ByteArray):findF (delF es s) s=none:=by
 unfold findF delF;rw[List.find?_eq_none];intro x hx;have:=(List.mem_filter.1 hx).2
 simpa using this
theorem findF_del_other (es:List Fe){s t:ByteArray} (h:t≠s):findF (delF es s) t=findF es t:=by
 unfold findF delF;rw[List.find?_filter]
 congr 1
 funext e
 by_cases he:e.name=t
 ·simp[he,h]
 ·simp[he]
theorem findF_put_same (es:List Fe) (e:Fe):findF (putF es e) e.name=some e:=by
 unfold putF;have h:=findF_del_same es e.name;unfold findF at h ⊢;rw[List.find?_append,h];simp
theorem findF_put_other (es:List Fe) (e:Fe){t:ByteArray} (h:t≠e.name):findF (putF es e) t=findF es t:=by
 unfold putF;have h1:=findF_del_other es h;unfold findF at h1 ⊢;rw[List.find?_append,h1];have:List.find? (fun x=>decide (x.name=t)) [e]=none:=by simp[Ne.symm h]
 rw[this,Option.or_none]
def Uniq (es:List Fe):Prop:=es.Pairwise (fun a b=>a.name≠b.name)
theorem Uniq.del {es:List Fe} (h:Uniq es) (s:ByteArray):Uniq (delF es s):=List.Pairwise.filter _ h
theorem Uniq.put {es:List Fe} (h:Uniq es) (e:Fe):Uniq (putF es e):=by
 unfold Uniq putF;rw[List.pairwise_append];refine⟨h.del _,List.pairwise_singleton _ _,fun a ha b hb=>?_⟩;rw[List.mem_singleton] at hb;subst hb;have:=(List.mem_filter.1 ha).2
 simpa using this
theorem del_length {es:List Fe} (h:Uniq es) (s:ByteArray):(delF es s).length+(if (findF es s).isSome then 1 else 0)=es.length:=by
 induction es with
 | nil=>simp[delF,findF]
 | cons a es ih =>
  have h1:=List.pairwise_cons.1 h;have ih':=ih h1.2
  by_cases ha:a.name=s
  ·have e1:delF es s=es:=by
    unfold delF;rw[List.filter_eq_self];intro x hx;have:=h1.1 x hx
    simp[←ha,Ne.symm this]
   have e2:delF (a::es) s=es:=by
    unfold delF at e1 ⊢;rw[List.filter_cons_of_neg (by simp[ha]),e1]
   rw[e2];simp[findF,ha]
  ·have e2:delF (a::es) s=a::delF es s:=by
    unfold delF;rw[List.filter_cons_of_pos (by simp[ha])]
   have e3:findF (a::es) s=findF es s:=by
    unfold findF;rw[List.find?_cons_of_neg (by simp[ha])]
   rw[e2,e3,List.length_cons,List.length_cons];omega
theorem put_length {es:List Fe} (h:Uniq es) (e:Fe):(putF es e).length=es.length+(if (findF es e.name).isSome then 0 else 1):=by
 have:=del_length h e.name
 unfold putF;rw[List.length_append,List.length_singleton];split at this<;>split<;>simp_all
def FsMap (w:World) (P:Program) (K:TypeId) (bm:Nat) (es:List Fe):Prop :=
 ∃D,w.ownsMap P K heldR bm es.length D∧Maps.size D=es.length∧(∀s:ByteArray,Maps.has D (nameL s)=(findF es s).isSome)∧∀(s:ByteArray) z,D.atKey (nameL s) z=match findF es s with|some e=>.held e.v|none=>z
theorem nameL_ne {s t:ByteArray} (h:t≠s):nameL t≠nameL s:=fun e=>by
 unfold nameL at e;injection e with e
 exact h (by cases s;cases t;simp_all)
section
variable {w w':World} {P:Program} {K T E bm:Nat} {es:List Fe}
theorem tight {n:Nat}{D:DataW Value} (h:w.ownsMap P K heldR bm n D):w.ownsMap P K heldR bm (Maps.size D) D:=by
 obtain⟨es,clock,h1,h2,_,h4⟩:=h;refine⟨es,clock,h1,h2,?_,h4⟩;rw[h4];simp[Maps.size,length_sorted]
theorem FsMap.lt (h:FsMap w P K bm es):bm<w.heap.size:=by
 obtain⟨D,h1,_⟩:=h;exact h1.lt
theorem FsMap.eq (h:FsMap w P K bm es) (he:w'.heap[bm]? = w.heap[bm]?):FsMap w' P K bm es:=by
 obtain⟨D,⟨m,clock,h1,h2⟩,h3⟩:=h;exact⟨D,⟨m,clock,he.trans h1,h2⟩,h3⟩
theorem FsMap.chg {S:Nat→Prop} (h:FsMap w P K bm es) (hc:Chg w w' S) (hS:¬S bm):FsMap w' P K bm es:=h.eq (hc.block _ h.lt hS)
theorem FsMap.new (w:World) (P:Program) (K:TypeId):FsMap (w.alloc (.map #[] 0)) P K w.heap.size [] :=
 ⟨.map [],World.ownsMap_made _ _ _ _,rfl,fun s=>rfl,fun s z=>rfl⟩
theorem FsMap.store (h:FsMap w P K bm es) (hu:Uniq es) (hk:P.underlying K=some .string) (ht:P.underlying T=some (.map K E)) (hn:es.length<maxLen) (e:Fe) (hs:e.name.size≤maxLen) :
  ∃w',(Instr.mapUpdate T (.map (some bm)) (.string e.name) e.v).run P w=.ok () w'∧FsMap w' P K bm (putF es e)∧Chg w w' (fun b=>b=bm)∧w'.heap.size=w.heap.size:=by
 obtain⟨D,h1,h2,h3,h4⟩:=h;obtain⟨w',hrun,h5,h6⟩:=h1.store (string_keyed hk) ht hn (keyOf_string_mk hk hs) (val:=e.v) (d:=.held e.v) (ps:=[]) rfl;have hsz:Maps.size (D.put (nameL e.name) (.held e.v))=(putF es e).length:=by
  have e1:=Maps.size_put (h1.tidy (string_keyed hk)) (k:=nameL e.name) (.held e.v);rw[e1,h3,put_length hu,h2];split<;>simp
 refine⟨w',hrun,⟨D.put (nameL e.name) (.held e.v),?_,hsz,fun s=>?_,fun s z=>?_⟩,(Chg.grown h6.grown).mono (fun k _ h=>by simpa using h),?_⟩
 ·rw[←hsz];exact tight h5
 ·by_cases hse:s=e.name
  ·subst hse;rw[findF_put_same,Maps.has_put_same h1.isMap (by exact trivial)];rfl
  ·rw[findF_put_other _ _ hse,Maps.has_put_other (nameL_ne hse),h3]
 ·by_cases hse:s=e.name
  ·subst hse;rw[findF_put_same,Maps.atKey_put_same h1.isMap (by exact trivial)]
  ·rw[findF_put_other _ _ hse,Maps.atKey_put_other (nameL_ne hse),h4]
 ·obtain⟨_,_,_,_,_,rfl⟩:=h6;simp[ChangeMaps.setBlock]
end
end Go.Bd
namespace Go.Bd
open Go.RowKit
def noteV (kb pb:Nat):Value:=.func (.func 67) #[] #[.pointer (some ⟨kb,0,none⟩),.pointer (some ⟨pb,0,none⟩)]
def figV (pb:Nat):Value:=.func (.func 70) #[] #[.pointer (some ⟨pb,0,none⟩)]
def cmds (n:Nat):List Fe:=[⟨⟨#[102,105,103]⟩,figV n,[]⟩,⟨⟨#[110,111,116,101]⟩,noteV (n+2) n,[]⟩,⟨⟨#[116,105,112]⟩,noteV (n+3) n,[]⟩,⟨⟨#[119,97,114,110]⟩,noteV (n+4) n,[]⟩]
end Go.Bd
namespace Go.Proofs.YtkkebmciiiajeaaGreatDoor
open Go.RowKit Go.Bd
theorem cmap_under:Tryz.prog.underlying 95=some (.map 9 102):=by kernel_rfl
theorem str_under:Tryz.prog.underlying 9=some .string:=by kernel_rfl
theorem commands_any (rb:Nat) (w:World) :
  Calls Tryz.prog 37 #[.pointer (some ⟨rb,0,none⟩)] w fun e w'=>e=.returned (.map (some (w.heap.size+1)))∧∃tp,FsMap w' Tryz.prog 9 (w.heap.size+1) (cmds w.heap.size)∧Holds w' w.heap.size tp #[.pointer (some ⟨rb,0,none⟩)]∧Holds w' (w.heap.size+2) 9 #[.string ⟨#[110,111,116,101]⟩]∧Holds w' (w.heap.size+3) 9 #[.string ⟨#[116,105,112]⟩]∧Holds w' (w.heap.size+4) 9 #[.string ⟨#[119,97,114,110]⟩]∧Below w.heap.size w w':=by
 have hmm:=@run_makeMap Tryz.prog;obtain⟨n,hn⟩:∃n,w.heap.size=n:=⟨_,rfl⟩;obtain⟨w0,hw0⟩:∃w0,(w.alloc (.cells #[.pointer (some ⟨rb,0,none⟩)] 92)).alloc (.map #[] 0)=w0:=⟨_,rfl⟩;have hB0:Below w.heap.size w w0:=hw0 ▸ ((Below.refl _ w).alloc (Nat.le_refl _) _).alloc (by simp) _;have hm0:=FsMap.new (w.alloc (.cells #[.pointer (some ⟨rb,0,none⟩)] 92)) Tryz.prog 9;have hp0:=(Holds.new w 92 #[.pointer (some ⟨rb,0,none⟩)]).alloc (.map #[] 0);rw[World.size_alloc,hn,hw0] at hm0;rw[hn,hw0] at hp0;have hs0:w0.heap.size=n+2:=by rw[←hw0,World.size_alloc,World.size_alloc,hn]
 obtain⟨w1,r1,m1,c1,s1⟩:=hm0.store (T:=95) List.Pairwise.nil str_under cmap_under (by simp[maxLen]) ⟨⟨#[102,105,103]⟩,figV n,[]⟩ (by show (3:Nat)≤maxLen;unfold maxLen;omega);rw[hs0] at s1;have u1:Uniq (putF [] ⟨⟨#[102,105,103]⟩,figV n,[]⟩):=Uniq.put List.Pairwise.nil _;have l1:(putF [] ⟨⟨#[102,105,103]⟩,figV n,[]⟩).length≤1:=by rw[put_length List.Pairwise.nil];simp[findF]
 have a2:=(Chg.refl w1 (fun _=>False)).alloc (.cells #[.string ⟨#[110,111,116,101]⟩] 9);have z2:(w1.alloc (.cells #[.string ⟨#[110,111,116,101]⟩] 9)).heap.size=n+3:=by rw[World.size_alloc,s1]
 have g2:=Holds.new w1 9 #[.string ⟨#[110,111,116,101]⟩];rw[s1] at g2;obtain⟨w2,r2,m2,c2,s2⟩:=(m1.chg a2 (fun h=>h)).store (T:=95) u1 str_under cmap_under (Nat.lt_of_le_of_lt l1 (by decide)) ⟨⟨#[110,111,116,101]⟩,noteV (n+2) n,[]⟩ (by show (4:Nat)≤maxLen;unfold maxLen;omega);rw[z2] at s2;have u2:=Uniq.put u1 ⟨⟨#[110,111,116,101]⟩,noteV (n+2) n,[]⟩;have l2:=Nat.le_trans (Nat.le_of_eq (put_length u1 ⟨⟨#[110,111,116,101]⟩,noteV (n+2) n,[]⟩)) (show _≤2 by split<;>omega);have a3:=(Chg.refl w2 (fun _=>False)).alloc (.cells #[.string ⟨#[116,105,112]⟩] 9);have z3:(w2.alloc (.cells #[.string ⟨#[116,105,112]⟩] 9)).heap.size=n+4:=by rw[World.size_alloc,s2]
 have g3:=Holds.new w2 9 #[.string ⟨#[116,105,112]⟩];rw[s2] at g3;obtain⟨w3,r3,m3,c3,s3⟩:=(m2.chg a3 (fun h=>h)).store (T:=95) u2 str_under cmap_under (Nat.lt_of_le_of_lt l2 (by decide)) ⟨⟨#[116,105,112]⟩,noteV (n+3) n,[]⟩ (by show (3:Nat)≤maxLen;unfold maxLen;omega);rw[z3] at s3;have u3:=Uniq.put u2 ⟨⟨#[116,105,112]⟩,noteV (n+3) n,[]⟩;have l3:=Nat.le_trans (Nat.le_of_eq (put_length u2 ⟨⟨#[116,105,112]⟩,noteV (n+3) n,[]⟩)) (show _≤3 by split<;>omega);have a4:=(Chg.refl w3 (fun _=>False)).alloc (.cells #[.string ⟨#[119,97,114,110]⟩] 9);have z4:(w3.alloc (.cells #[.string ⟨#[119,97,114,110]⟩] 9)).heap.size=n+5:=by rw[World.size_alloc,s3]
 have g4:=Holds.new w3 9 #[.string ⟨#[119,97,114,110]⟩];rw[s3] at g4;obtain⟨w4,r4,m4,c4,s4⟩:=(m3.chg a4 (fun h=>h)).store (T:=95) u3 str_under cmap_under (Nat.lt_of_le_of_lt l3 (by decide)) ⟨⟨#[119,97,114,110]⟩,noteV (n+4) n,[]⟩ (by show (4:Nat)≤maxLen;unfold maxLen;omega);rw[z4] at s4;have u4:=Uniq.put u3 ⟨⟨#[119,97,114,110]⟩,noteV (n+4) n,[]⟩;have l4:=Nat.le_trans (Nat.le_of_eq (put_length u3 ⟨⟨#[119,97,114,110]⟩,noteV (n+4) n,[]⟩)) (show _≤4 by split<;>omega);have b1:Below n w0 w1:=c1.toBelow (by omega) (fun k hk=>by omega);have b2:Below n w1 w2:=(((Chg.refl w1 (fun b=>b=n+1)).alloc _).trans c2 (fun _ _ h=>h)).toBelow (by omega) (fun k hk=>by omega);have b3:Below n w2 w3:=(((Chg.refl w2 (fun b=>b=n+1)).alloc _).trans c3 (fun _ _ h=>h)).toBelow (by omega) (fun k hk=>by omega);have b4:Below n w3 w4:=(((Chg.refl w3 (fun b=>b=n+1)).alloc _).trans c4 (fun _ _ h=>h)).toBelow (by omega) (fun k hk=>by omega);have hB:Below n w w4:=(((hn ▸ hB0).trans b1).trans b2).trans (b3.trans b4);have d2:Chg (w1.alloc (.cells #[.string ⟨#[110,111,116,101]⟩] 9)) w4 (fun b=>b=n+1):=(c2.trans (((Chg.refl w2 (fun b=>b=n+1)).alloc _).trans c3 (fun _ _ h=>h)) (fun _ _ h=>h)).trans (((Chg.refl w3 (fun b=>b=n+1)).alloc _).trans c4 (fun _ _ h=>h)) (fun _ _ h=>h);have d3:Chg (w2.alloc (.cells #[.string ⟨#[116,105,112]⟩] 9)) w4 (fun b=>b=n+1):=c3.trans (((Chg.refl w3 (fun b=>b=n+1)).alloc _).trans c4 (fun _ _ h=>h)) (fun _ _ h=>h);have d0:Chg w0 w4 (fun b=>b=n+1):=c1.trans ((((Chg.refl w1 (fun b=>b=n+1)).alloc _).trans d2 (fun _ _ h=>h))) (fun _ _ h=>h)
 have q0:=d0.holds (by omega) hp0;have q2:=d2.holds (by omega) g2;have q3:=d3.holds (by omega) g3;have q4:=c4.holds (by omega) g4;have hes:putF (putF (putF (putF [] ⟨⟨#[102,105,103]⟩,figV n,[]⟩) ⟨⟨#[110,111,116,101]⟩,noteV (n+2) n,[]⟩) ⟨⟨#[116,105,112]⟩,noteV (n+3) n,[]⟩) ⟨⟨#[119,97,114,110]⟩,noteV (n+4) n,[]⟩=cmds n:=by
  simp[putF,delF,cmds,show (⟨#[102,105,103]⟩:ByteArray)≠⟨#[110,111,116,101]⟩ by decide,show (⟨#[102,105,103]⟩:ByteArray)≠⟨#[116,105,112]⟩ by decide,show (⟨#[102,105,103]⟩:ByteArray)≠⟨#[119,97,114,110]⟩ by decide,show (⟨#[110,111,116,101]⟩:ByteArray)≠⟨#[116,105,112]⟩ by decide,show (⟨#[110,111,116,101]⟩:ByteArray)≠⟨#[119,97,114,110]⟩ by decide,show (⟨#[116,105,112]⟩:ByteArray)≠⟨#[119,97,114,110]⟩ by decide]
 rw[hes] at m4;have HM:=hidH6 m4 q0 q2 q3 q4 hB;have HH:=hidH2 hn hw0;have n1:=note_any ⟨#[110,111,116,101]⟩ n w1;have n2:=note_any ⟨#[116,105,112]⟩ n w2;have n3:=note_any ⟨#[119,97,114,110]⟩ n w3;rw[s1] at n1;rw[s2] at n2;rw[s3] at n3;unfold figV at r1;unfold noteV at r2 r3 r4;clear hs0 m1 c1 u1 l1 a2 z2 g2 m2 c2 u2 l2 a3 z3 g3 m3 c3 u3 l3 a4 z4 g4 m4 c4 u4 l4 hB0 hm0 hp0 s1 s2 s3 s4 b1 b2 b3 b4 hB d2 d3 d0 q0 q2 q3 q4 hes
 go_enter Tryz.func37,Tryz.ntmps37
 go_wp2_with fail
 refine n1.mono ?_;rintro e w' ⟨rfl,rfl⟩
 go_wp2_with fail
 refine n2.mono ?_;rintro e w' ⟨rfl,rfl⟩
 go_wp2_with fail
 refine n3.mono ?_;rintro e w' ⟨rfl,rfl⟩;go_wp2
 go_ret
 rw[HH.out.1];exact⟨rfl,_,HM.out.1,HM.out.2.1,HM.out.2.2.1,HM.out.2.2.2.1,HM.out.2.2.2.2.1,HM.out.2.2.2.2.2⟩
end Go.Proofs.YtkkebmciiiajeaaGreatDoor
namespace Go.Bd
open Go.RowKit Go.Maps Go.WideMaps
theorem FsMap.lookz_ok {w:World}{P:Program}{K T E bm:Nat}{es:List Fe} (h:FsMap w P K bm es) (hk:P.underlying K=some .string) (ht:P.underlying T=some (.map K E)){z:Value} (hz:(zeroValue E).run P w=.ok z w){s:ByteArray} (hs:s.size≤maxLen) :
  (Instr.lookup T (.map (some bm)) (.string s) true).run P w=.ok (.tuple #[(match findF es s with|some e=>e.v|none=>z),.bool (findF es s).isSome]) w:=by
 obtain⟨D,h1,_,h3,h4⟩:=h;obtain⟨v,ps,hrun,hv⟩:=h1.look_ok (string_keyed hk) ht hz rfl (keyOf_string_mk hk hs);rw[hrun];have e1:=h4 s (.held z);have e2:=h3 s;unfold nameL at e1 e2;rw[e1] at hv;rw[e2];simp only[heldR,Option.some.injEq,Prod.mk.injEq] at hv;have e3:v=(match findF es s with|some e=>e.v|none=>z):=by
  split at hv<;>simp_all
 rw[e3]
end Go.Bd
namespace Go.Proofs.YtkkebmciiiajeaaGreatDoor
open Go.RowKit Go.Bd
theorem read_any {w:World}{O F:Nat→Prop}{rb:Nat}{lv:Value}{pos:Nat}{bv:Value}{bs:List Bl}{dv:Value}{ds:List Dg} (h:Rdr w O F rb lv pos bv bs dv ds) (f t:ByteArray) (no:Int) (s:ByteArray) (hs:s.size≤100000000){m:Int} (hm:Glob m w) (h3:∀k,O k→3≤k)
  (hl:bs.length≤1000000000) {L:Nat→Prop} {ls:List Ln} (hL:LinesAt w L lv ls) (hLO:∀k,L k→¬O k) (hLl:∀k,L k→k<w.heap.size) (hsz:∀x∈ls,x.text.size≤100000000) (hp:pos≤ls.length) (hn:ls.length≤1000000) (hwt:s.size+wtX (ls.drop pos)≤100000000) (hd:ds.length+10+s.size+wtX (ls.drop pos)≤1000000000) :
  Calls Tryz.prog 41 #[.pointer (some ⟨rb,0,none⟩),.agg #[.string f,.int .i64 no,.string t],.string s] w fun e w'=>e=.returned (.tuple #[])∧RdPost w O F rb lv pos bs ds (readR f no s (ls.drop pos)) w':=by
 unfold readR
 by_cases hA:0<(leadB s.data.toList 61).1
 ·rw[if_pos hA];exact read_head h f t no s hs hm h3 hl (by omega) hA
 rw[if_neg hA]
 by_cases hI:0<(itemB s.data.toList).1
 ·rw[if_pos hI];exact read_item h f t no s hs hm h3 hl (by omega) hA hI
 rw[if_neg hI]
 by_cases h0:s.data.toList=[]
 ·rw[if_pos h0];exact read_none h f t no s hs hm h3 hl (by omega) hA hI h0
 rw[if_neg h0]
 by_cases h4:s.data.toList=fenceL
 ·rw[if_pos h4];exact read_code h f t no s hs hm h3 hl (by omega) hA hI h4 hL hLO hLl hsz hp hn hwt hd
 rw[if_neg h4]
 by_cases hpf:Lib.hasPrefix s.data.toList barsL=true
 ·rw[if_pos hpf];exact read_table h f t no s hs hm h3 hl (by omega) hA hI h0 h4 hpf hL hLO hLl hsz hp hn hwt hd
 ·rw[if_neg hpf];exact read_para h f t no s hs hm h3 hl (by omega) hA hI h0 h4 (by simpa using hpf) hL hLO hLl hsz hp hn hwt hd
theorem fig_any {w:World}{O F:Nat→Prop}{rb:Nat}{lv:Value}{pos:Nat}{bv:Value}{bs:List Bl}{dv:Value}{ds:List Dg} (h:Rdr w O F rb lv pos bv bs dv ds){pb:Nat}{tp:TypeId} (hp:Holds w pb tp #[.pointer (some ⟨rb,0,none⟩)]) (f t:ByteArray) (no:Int) (s:ByteArray) (hs:s.size≤100000000) (hne:¬s=⟨#[]⟩){m:Int} (hm:Glob m w) (h3:∀k,O k→3≤k)
  (hl:bs.length≤1000000000) (hd:ds.length+10+s.size≤1000000000) :
  Calls Tryz.prog 70 #[.agg #[.string f,.int .i64 no,.string t],.string s,.pointer (some ⟨pb,0,none⟩)] w fun e w'=>e=.returned (.bool true)∧RdPost w O F rb lv pos bs ds (figR f no s.data.toList) w':=by
 unfold figR figB RdPost
 by_cases hi:0≤Lib.indexAny s.data.toList [32,9]
 ·obtain⟨k,hk⟩:∃k:Nat,Lib.indexAny s.data.toList [32,9]=k:=⟨_,(Int.toNat_of_nonneg hi).symm⟩;have hlt:=indexAny_lt (g:=[32,9]) (l:=s.data.toList);have hks:k<s.size:=by
   rw[hk] at hlt;rw[←size_list] at hlt;omega
  rw[if_pos hi,hk];simp only[Int.toNat_natCast];have hz:(⟨(dropL (s.data.toList.drop k)).toArray⟩:ByteArray).size≤s.size:=by
   have:=dropL_le (s.data.toList.drop k)
   rw[size_mk];rw[List.length_drop,←size_list] at this;omega
  have hfl:(faultsOf (titleB (⟨(dropL (s.data.toList.drop k)).toArray⟩:ByteArray).data.toList).1).length≤s.size:=by
   have h1:=faults_le (titleB (⟨(dropL (s.data.toList.drop k)).toArray⟩:ByteArray).data.toList).1;have h2:=titleB_le (⟨(dropL (s.data.toList.drop k)).toArray⟩:ByteArray).data.toList;rw[←size_list] at h2;omega
  have he:s.extract 0 k=⟨(s.data.toList.take k).toArray⟩:=ba_ext (by rw[extract_list];simp);have FT:=fig_two h hp f t no s hs hne k hks hk hm h3 hl ⟨(dropL (s.data.toList.drop k)).toArray⟩ rfl (by omega) (by omega);rw[he] at FT;exact FT
 ·rw[if_neg hi];simp only[];have hss:(⟨s.data.toList.toArray⟩:ByteArray)=s:=ba_ext (by simp);rw[hss];have hfl:(faultsOf (titleB []).1).length=0:=by
   have h1:=faults_le (titleB []).1;have h2:=titleB_le [];simp at h2;rw[h2] at h1 ⊢;simpa using h1
  exact fig_one h hp f t no s hs hne (by omega) hm h3 hl (by omega)
end Go.Proofs.YtkkebmciiiajeaaGreatDoor
