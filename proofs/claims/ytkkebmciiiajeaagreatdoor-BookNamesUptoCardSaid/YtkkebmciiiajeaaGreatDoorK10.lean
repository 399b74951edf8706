/- part 10 -/
import Derived.Deep.QuietTactic
import Derived.Lib.Hide
import Derived.Test.YtkkebmciiiajeaaGreatDoorK0
import Derived.Test.YtkkebmciiiajeaaGreatDoorK9
set_option linter.unusedSimpArgs false
set_option linter.unusedVariables false
set_option maxHeartbeats 16000000
set_option maxRecDepth 100000
namespace Go.Proofs.YtkkebmciiiajeaaGreatDoor
open Go.RowKit Go.Bd
theorem do_zero (w:World):(zeroValue 102).run Tryz.prog w=.ok .nilFunc w:=by kernel_rfl
theorem command_le {l:Bs}{p:Bs×Bs} (h:commandB l=some p):p.1.length≤l.length∧p.2.length≤l.length:=by
 unfold commandB at h;split at h
 ·cases h
 ·split at h
  ·cases h
   have:=dropL_le ((l.drop 1).drop (Lib.indexAny (l.drop 1) [32,9]).toNat)
   simp only[List.length_take,List.length_drop] at this ⊢;omega
  ·cases h
   simp
theorem fig_le (l:Bs):(figB l).2.length≤l.length:=by
 unfold figB;split
 ·have:=dropL_le (l.drop (Lib.indexAny l [32,9]).toNat)
  simp only[List.length_drop] at this ⊢;omega
 ·simp
theorem wtX_take {l:List Ln}{a b:Nat} (h:a≤b):wtX (l.take a)≤wtX (l.take b):=by
 have h1:=wtX_split (l.take b) a;rw[List.take_take,Nat.min_eq_left h] at h1;omega
theorem cmd_ds (f:ByteArray) (no:Int) (s:ByteArray) (wd bh:Bs):(cmdR f no s wd bh).2.2.length≤3+bh.length:=by
 unfold cmdR;split
 ·split
  ·simp only[wordR,List.length_singleton];omega
  ·have h1:=titledD_le f no ⟨(figB bh).2.toArray⟩;have h2:=fig_le bh;rw[size_mk] at h1;simp only[figR];omega
 ·split
  ·have:=faults_le bh
   simp only[noteR,List.length_map];omega
  ·simp only[wordR,List.length_singleton];omega
theorem read_ds (f:ByteArray) (no:Int) (s:ByteArray) (rest:List Ln):(readR f no s rest).2.2.length≤3+s.size+wtX (rest.take (readR f no s rest).1):=by
 unfold readR;split
 ·have h1:=titledD_le f no ⟨(leadB s.data.toList 61).2.toArray⟩;have h2:=lead_le s.data.toList 61;rw[size_mk] at h1;rw[←size_list] at h2;simp only[headR];omega
 ·split
  ·have h1:=faults_le (itemB s.data.toList).2.2;have hiz:(itemB s.data.toList).2.2.length≤s.size:=by
    have h1:=trim_size s;unfold itemB;split
    ·exact Nat.le_trans (lead_le _ _) h1
    ·split
     ·exact Nat.le_trans (lead_le _ _) h1
     ·simp
   simp only[itemR,List.length_map];omega
  ·split
   ·simp
   ·split
    ·simp only[codeR];split<;>simp<;>omega
    ·split
     ·have h1:=titledD_le f no (tabT s);have h2:=rowFs_le (rest.take (tabN rest));have h3:wtX (rest.take (tabN rest))≤wtX (rest.take (endN (tabN rest) rest.length)):=wtX_take (by unfold endN;split<;>omega);have h4:(tabT s).size≤s.size:=by
       unfold tabT;rw[size_mk];have:=dropL_le (s.data.toList.drop 4)
       rw[List.length_drop,←size_list] at this;omega
      have h5:(tabE f no s rest).length≤2:=by
       unfold tabE;rw[List.length_append];split<;>split<;>simp
      simp only[tableR,List.length_append,tabF];omega
     ·have h1:=tail_len (rest.take (untilN (fun t=>!plainL t) rest));have h2:=faults_le (paraB rest 0 s);have h3:(paraB rest 0 s).length≤s.size+wtX (rest.take (untilN (fun t=>!plainL t) rest)):=by
       unfold paraB paraT;rw[List.drop_zero,Lib.join_cons,List.length_append,←size_list];omega
      simp only[paraR,List.length_map];omega
theorem step_ds (x:Ln) (rest:List Ln):(stepR x rest).2.2.length≤3*(x.text.size+1+wtX (rest.take (stepR x rest).1)):=by
 have hs:(tr x.text).size≤x.text.size:=tr_le x.text;unfold stepR;split
 ·rename_i p hp;have h1:=cmd_ds x.file x.no (tr x.text) p.1 p.2;have h2:=(command_le hp).2;have h3:=trim_size x.text;omega
 ·have:=read_ds x.file x.no (tr x.text) rest
  omega
theorem Turn.below {w w':World}{O F:Nat→Prop} (hb:Below w.heap.size w w'):Turn w w' O F O F:=⟨Chg.below hb O,fun _ h=>.inl h,fun _ h=>.inl h,fun _ h=>h⟩
theorem cmds_fig (n:Nat):findF (cmds n) ⟨#[102,105,103]⟩=some ⟨⟨#[102,105,103]⟩,figV n,[]⟩:=by
 simp[findF,cmds]
theorem cmds_note (n:Nat):findF (cmds n) ⟨#[110,111,116,101]⟩=some ⟨⟨#[110,111,116,101]⟩,noteV (n+2) n,[]⟩:=by
 simp[findF,cmds]
theorem cmds_tip (n:Nat):findF (cmds n) ⟨#[116,105,112]⟩=some ⟨⟨#[116,105,112]⟩,noteV (n+3) n,[]⟩:=by
 simp[findF,cmds]
theorem cmds_warn (n:Nat):findF (cmds n) ⟨#[119,97,114,110]⟩=some ⟨⟨#[119,97,114,110]⟩,noteV (n+4) n,[]⟩:=by
 simp[findF,cmds]
theorem cmds_other (n:Nat){s:ByteArray} (h1:¬s=⟨#[102,105,103]⟩) (h2:¬s=⟨#[110,111,116,101]⟩) (h3:¬s=⟨#[116,105,112]⟩) (h4:¬s=⟨#[119,97,114,110]⟩):findF (cmds n) s=none:=by
 unfold findF;rw[List.find?_eq_none];intro e he;simp only[cmds,List.mem_cons,List.not_mem_nil,or_false] at he
 rcases he with rfl|rfl|rfl|rfl<;>simp<;>intro e<;>first|exact h1 e.symm|exact h2 e.symm|exact h3 e.symm|exact h4 e.symm
theorem bparse_any {w:World}{L:Nat→Prop}{lv:Value}{ls:List Ln} (hL:LinesAt w L lv ls) (hLl:∀k,L k→k<w.heap.size){m:Int} (hm:Glob m w) (hwt:wtX ls≤100000000) (hn:ls.length≤1000000) :
  Calls Tryz.prog 17 #[lv] w fun e w'=>∃O F rb bv dv,e=.returned (.tuple #[bv,dv])∧Rdr w' O F rb lv ls.length bv (blocksOf ls) dv (diagsOf ls)∧(∀k,O k→w.heap.size≤k)∧(∀k,F k→w.heap.size≤k)∧Below w.heap.size w w':=by
 have hsz:∀x∈ls,x.text.size≤100000000:=fun x hx=>by have:=wtX_mem hx;omega
 have hn0:ls.length≤100000000:=by omega
 obtain⟨A,c,rfl,hcl⟩:∃A c,lv=.slice A ls.length c∧ls.length≤c:=by
  obtain⟨A,c,h1,h2,_⟩:=hL;exact⟨A,c,h1,h2⟩
 have hw3:=hm.three;have hH0:=Holds.new w tR #[.slice A ls.length c,.int .i64 0,.slice none 0 0,.slice none 0 0];have hB0:=(Below.refl w.heap.size w).alloc (Nat.le_refl _) (.cells #[.slice A ls.length c,.int .i64 0,.slice none 0 0,.slice none 0 0] tR);have CC:=commands_any w.heap.size (w.alloc (.cells #[.slice A ls.length c,.int .i64 0,.slice none 0 0,.slice none 0 0] tR));rw[World.size_alloc] at CC;obtain⟨rb,hrb⟩:∃rb,w.heap.size=rb:=⟨_,rfl⟩;rw[hrb] at hH0 CC hw3;have etr:tR=94:=rfl;rw[etr] at hH0 CC hB0;have HI:=hidH5 hL hLl hm hsz hrb;have H0:=hidH2 hH0 hB0;clear hL hLl hm hsz hH0 hB0 etr
 go_enter Tryz.func17,Tryz.ntmps17
 go_wp2_with fail
 (try rw[hrb])
 refine CC.mono ?_;clear CC hrb;rintro e W1 ⟨rfl,tp,hfm,hpb,hk2,hk3,hk4,hbl1⟩;have hH1:=H0.out.1.below hbl1 (Nat.lt_succ_self _);have hB1:Below rb w W1:=by
  have:=H0.out.2
  rw[HI.out.2.2.2.2] at this;exact this.trans (hbl1.mono (Nat.le_succ _))
 have hn1:rb+1<W1.heap.size:=hpb.lt;have hn4:rb+1+4<W1.heap.size:=hk4.lt;have hR1:Rdr W1 (fun k=>k=rb) (fun _=>False) rb (.slice A ls.length c) 0 (.slice none 0 0) [] (.slice none 0 0) [] :=
  ⟨hH1,⟨[],rfl,World.ownsRow_nil _ _ _ _,(fun _ _ _ h=>by simp at h)⟩,World.ownsRow_nil _ _ _ _,rfl,(fun k hk=>by cases hk),(fun k hk=>by cases hk),(fun _ h=>h.elim),(fun k hk=>by omega),(fun _ h=>h.elim)⟩
 have H1:=hidH7 hR1 hB1 hfm hpb hk2 hk3 hk4;clear hH1 hB1 hR1 hfm hpb hk2 hk3 hk4 hbl1;go_wp2
 go_loopg [6,7,8,9,10,11,12] ls.length (fun q v6 v7 v8 v9 v10 v11 v12 wr=>∃(pos:Nat) (O F:Nat→Prop) (bv dv:Value) (bs:List Bl) (ds:List Dg),pos+q=ls.length∧Hid (Rdr wr O F rb (.slice A ls.length c) pos bv bs dv ds∧Turn W1 wr (fun k=>k=rb) (fun _=>False) O F∧bs++blocksOf (ls.drop pos)=blocksOf ls∧ds++diagsOf (ls.drop pos)=diagsOf ls∧bs.length≤pos∧ds.length+3*wtX (ls.drop pos)≤3*wtX ls))
 case atStart=>exact⟨0,_,_,_,_,[],[],by omega,H1.out.1,Turn.refl _ _ _,by simp,by simp,by simp,by simp⟩
 case round =>
  obtain⟨pos,O,F,bv,dv,bs,ds,hq,HK⟩:=hrel;have p0:wr.cell? ⟨rb,0,none⟩=some (.slice A ls.length c):=HK.out.1.hold.cell 0;have p1:wr.cell? ⟨rb,1,none⟩=some (.int .i64 (pos:Int)):=HK.out.1.hold.cell 1;have f1:=HK.out.1.hold.free 1
  by_cases hlt:pos<ls.length
  ·obtain⟨x,hx⟩:∃x,ls[pos]? = some x:=⟨_,List.getElem?_eq_getElem hlt⟩;have hCW:Chg w wr (fun k=>k=rb):=(Chg.below (by rw[HI.out.2.2.2.2];exact H1.out.2.1) _).trans HK.out.2.1.chg (fun k _ h=>h);have hLr:=HI.out.1.chg hCW (fun k hk e=>by have:=HI.out.2.1 k hk;have:=HI.out.2.2.2.2;omega);obtain⟨b,off,c1,hA,_,hb,l0,l1,l2⟩:=hLr.at hx;obtain⟨rfl,rfl⟩:A=some ⟨b,off,none⟩∧c=c1:=by cases hA;exact⟨rfl,rfl⟩
   have hbr:b<rb:=by have:=HI.out.2.1 b hb;have:=HI.out.2.2.2.2;omega
   have hrl:=HK.out.1.hold.lt;have hxs:=HI.out.2.2.2.1 x (List.mem_of_getElem? hx);have CN:=fun W=>counted_any x.file x.text x.no W hxs
   have HX:=hidH3 hx hLr hCW;clear hLr hCW hA hx
   go_wp2_with fail
   have e1:((pos:Int)+1)=((pos+1:Nat):Int):=by omega
   rw[e1];clear e1 l0 l1 l2 p0 p1 f1;have hm2:=HK.out.1.moved (pos+1);have hb2:Below (wr.setCell ⟨rb,1,none⟩ (.int .i64 ((pos+1:Nat):Int))).heap.size (wr.setCell ⟨rb,1,none⟩ (.int .i64 ((pos+1:Nat):Int))) ((wr.setCell ⟨rb,1,none⟩ (.int .i64 ((pos+1:Nat):Int))).alloc (.cells #[.string x.file,.int .i64 x.no,.string x.text] 98)):=(Below.refl _ _).alloc (Nat.le_refl _) _;have hr2:=hm2.below hb2;have hX2:=Holds.new (wr.setCell ⟨rb,1,none⟩ (.int .i64 ((pos+1:Nat):Int))) 98 #[.string x.file,.int .i64 x.no,.string x.text];have ht2:Turn W1 ((wr.setCell ⟨rb,1,none⟩ (.int .i64 ((pos+1:Nat):Int))).alloc (.cells #[.string x.file,.int .i64 x.no,.string x.text] 98)) (fun k=>k=rb) (fun _=>False) O F:=(HK.out.2.1.trans (HK.out.1.turn (pos+1))).trans (Turn.below hb2);have hsz2:(wr.setCell ⟨rb,1,none⟩ (.int .i64 ((pos+1:Nat):Int))).heap.size=wr.heap.size:=by simp
   rw[hsz2] at hX2;obtain⟨lb,hlb⟩:∃lb,wr.heap.size=lb:=⟨_,rfl⟩;rw[hlb] at hX2;have hlO:¬O lb:=fun e=>by have:=HK.out.1.ltO _ e;omega
   obtain⟨W2,hW2⟩:∃W2,(wr.setCell ⟨rb,1,none⟩ (.int .i64 ((pos+1:Nat):Int))).alloc (.cells #[.string x.file,.int .i64 x.no,.string x.text] 98)=W2:=⟨_,rfl⟩;rw[hW2] at hr2 hX2 ht2 ⊢
   (try rw[hlb])
   have H2:=hidH3 hr2 hX2 ht2;clear hm2 hb2 hr2 hX2 ht2 hsz2 hlb hW2;obtain⟨s1,hs1⟩:∃s1,tr x.text=s1:=⟨_,rfl⟩;have hs1l:s1.size≤x.text.size:=hs1 ▸ tr_le x.text;have hs1d:trim x.text.data.toList=s1.data.toList:=by rw[←hs1];simp[tr]
   have CN1:=CN W2;have hsv:strV (trim x.text.data.toList)=.string s1:=by rw[hs1d];exact (strV_of rfl).symm
   rw[hsv] at CN1;have hdrop:ls.drop pos=x::ls.drop (pos+1):=by
    rw[List.drop_eq_getElem_cons hlt];have e:ls[pos]'hlt=x:=by have:=List.getElem?_eq_getElem hlt;rw[HX.out.1] at this;exact (Option.some.inj this).symm
    rw[e]
   obtain⟨T,hT⟩:∃T,stepR x (ls.drop (pos+1))=T:=⟨_,rfl⟩;have hbo:blocksOf (ls.drop pos)=T.2.1++blocksOf (ls.drop (pos+1+T.1)):=by rw[hdrop,blocksOf_cons,hT,List.drop_drop]
   have hdo:diagsOf (ls.drop pos)=T.2.2++diagsOf (ls.drop (pos+1+T.1)):=by rw[hdrop,diagsOf_cons,hT,List.drop_drop]
   have hT1:T.2.1.length≤1:=hT ▸ step_one x _;have hT3:pos+1+T.1≤ls.length:=by
    have:=step_le x (ls.drop (pos+1))
    rw[hT,List.length_drop] at this;omega
   have hwd:wtX (ls.drop pos)=x.text.size+1+wtX (ls.drop (pos+1)):=by rw[hdrop,wtX]
   have hT2:T.2.2.length+3*wtX (ls.drop (pos+1+T.1))≤3*wtX (ls.drop pos):=by
    have h1:=step_ds x (ls.drop (pos+1));have h2:=wtX_split (ls.drop (pos+1)) T.1;rw[hT] at h1;rw[List.drop_drop] at h2;omega
   have hwl:wtX (ls.drop pos)≤wtX ls:=by have:=wtX_split ls pos;omega
   have NEXT:Hid (∀(w5:World) (O5 F5:Nat→Prop) (bv5 dv5:Value),Rdr w5 O5 F5 rb (.slice (some ⟨b,off,none⟩) ls.length c) (pos+1+T.1) bv5 (bs++T.2.1) dv5 (ds++T.2.2)→Turn W1 w5 (fun k=>k=rb) (fun _=>False) O5 F5 →
     ∃(pos':Nat) (O F:Nat→Prop) (bv dv:Value) (bs ds':_),pos'+(ls.length-(pos+1+T.1))=ls.length∧Hid (Rdr w5 O F rb (.slice (some ⟨b,off,none⟩) ls.length c) pos' bv bs dv ds'∧Turn W1 w5 (fun k=>k=rb) (fun _=>False) O F∧bs++blocksOf (ls.drop pos')=blocksOf ls∧ds'++diagsOf (ls.drop pos')=diagsOf ls∧bs.length≤pos'∧ds'.length+3*wtX (ls.drop pos')≤3*wtX ls)):=by
    intro w5 O5 F5 bv5 dv5 h1 h2;refine⟨pos+1+T.1,O5,F5,bv5,dv5,bs++T.2.1,ds++T.2.2,by omega,h1,h2,?_,?_,?_,?_⟩
    ·rw[List.append_assoc,←hbo];exact HK.out.2.2.1
    ·rw[List.append_assoc,←hdo];exact HK.out.2.2.2.1
    ·have:=HK.out.2.2.2.2.1;rw[List.length_append];omega
    ·have:=HK.out.2.2.2.2.2;rw[List.length_append];omega
   have hdl:ds.length≤300000000:=by have:=HK.out.2.2.2.2.2;omega
   have hbl:bs.length≤100000000:=by have:=HK.out.2.2.2.2.1;omega
   have hw1:wtX (ls.drop (pos+1))+s1.size≤100000000:=by omega
   have hTs:T=match commandB s1.data.toList with|some p=>cmdR x.file x.no s1 p.1 p.2|none=>readR x.file x.no s1 (ls.drop (pos+1)):=by
    rw[←hT];unfold stepR;rw[hs1d,hs1];cases commandB s1.data.toList<;>rfl
   have HTS:=Lib.hid hTs;clear CN hs1 hs1d hsv hdrop hT hbo hdo hT2 hwd hwl hTs;refine CN1.mono ?_;clear CN1;rintro e w3 ⟨rfl,hb3⟩;have CM:=command_any s1 w3 (by omega);have hcl2:=@command_le s1.data.toList;have ht3:=H2.out.2.2.trans (Turn.below hb3);have hr3:=H2.out.1.below hb3;have hX3:=H2.out.2.1.below hb3 H2.out.2.1.lt;have H3:=hidH3 ht3 hr3 hX3;clear ht3 hr3 hX3 hb3;unfold commandV at CM;have HTO:=HTS.out;cases hcm:commandB s1.data.toList with
   | none =>
    rw[hcm] at CM HTO;simp only at CM HTO;unfold strV at CM;clear hcl2
    go_wp2_with fail
    refine CM.mono ?_;clear CM;rintro e w4 ⟨rfl,hb4⟩;have hb34:Turn w3 w4 O F O F:=Turn.below hb4;have ht4:=H3.out.1.trans hb34;have hr4:=H3.out.2.1.below hb4;have hX4:=H3.out.2.2.below hb4 H3.out.2.2.lt;have HX4:=Lib.hid hX4;have hbmO:¬(fun k=>k=rb) (rb+1+1):=by simp;omega
    have hfm4:=H1.out.2.2.1.chg ht4.chg hbmO;have hpb4:=ht4.chg.holds (by show ¬(rb+1=rb);omega) H1.out.2.2.2.1;have hk24:=ht4.chg.holds (by show ¬(rb+1+2=rb);omega) H1.out.2.2.2.2.1;have hk34:=ht4.chg.holds (by show ¬(rb+1+3=rb);omega) H1.out.2.2.2.2.2.1;have hk44:=ht4.chg.holds (by show ¬(rb+1+4=rb);omega) H1.out.2.2.2.2.2.2;have hO3:∀k,O k→3≤k:=fun k hk=>by rcases ht4.inO k hk with e|e;omega;omega
    have hOlt:∀k,O k→k=rb∨W1.heap.size≤k:=ht4.inO;have hpO:¬O (rb+1):=fun e=>by rcases hOlt _ e with e|e<;>omega
    have hszw:W1.heap.size≤w4.heap.size:=ht4.chg.size;have hCW4:Chg w w4 (fun k=>k=rb):=(Chg.below (by rw[HI.out.2.2.2.2];exact H1.out.2.1) _).trans ht4.chg (fun k _ h=>h);have hm4:Glob m w4:=HI.out.2.2.1.chg hCW4 (fun k hk=>by omega);have hL4:=HI.out.1.chg hCW4 (fun k hk e=>by have:=HI.out.2.1 k hk;have:=HI.out.2.2.2.2;omega);have hLO:∀k,L k→¬O k:=fun k hk e=>by have:=HI.out.2.1 k hk;have:=HI.out.2.2.2.2;rcases hOlt k e with e|e<;>omega
    clear hb34 hbmO hCW4;have RA:=read_any hr4 x.file x.text x.no s1 (by omega) hm4 hO3 (by omega) hL4 hLO (fun k hk=>by have:=HI.out.2.1 k hk;have:=HI.out.2.2.2.2;omega) HI.out.2.2.2.1 (by omega) (by omega) (by omega) (by omega);obtain⟨d0,d1,d2⟩:=cells3 hX4;have H4:=Lib.hid ht4;have HE:=Lib.hid HTO;clear ht4 hr4 hX4 hm4 hL4 hO3 HTO hb4 hfm4 hpb4 hk24 hk34 hk44 hpO hOlt
    go_wp2_with fail
    refine RA.mono ?_;clear RA;rintro e w5 ⟨rfl,O5,F5,bv5,dv5,hr5,ht5⟩;have H5:=hidH2 hr5 ht5;clear hr5 ht5 d0 d1 d2;go_wp2
    go_roundg (ls.length-(pos+1+T.1))
    case measure=>omega
    case rel=>exact NEXT.out w5 O5 F5 bv5 dv5 (by rw[HE.out];exact H5.out.1) (H4.out.trans H5.out.2)
   | some p =>
    rw[hcm] at CM HTO;simp only at CM HTO;obtain⟨wd,bh⟩:=p;have hcl2:=hcl2 hcm;simp only at CM HTO hcl2;obtain⟨wt,rfl⟩:∃wt:ByteArray,wd=wt.data.toList:=⟨⟨wd.toArray⟩,by simp⟩;obtain⟨bt,rfl⟩:∃bt:ByteArray,bh=bt.data.toList:=⟨⟨bh.toArray⟩,by simp⟩;rw[←strV_of (s:=wt) rfl,←strV_of (s:=bt) rfl] at CM;obtain⟨hwz,hbz⟩:=hcl2;rw[←size_list,←size_list] at hwz hbz;have HCM:=Lib.hid hcm;clear hcm
    go_wp2_with fail
    refine CM.mono ?_;clear CM;rintro e w4 ⟨rfl,hb4⟩;have hb34:Turn w3 w4 O F O F:=Turn.below hb4;have ht4:=H3.out.1.trans hb34;have hr4:=H3.out.2.1.below hb4;have hX4:=H3.out.2.2.below hb4 H3.out.2.2.lt;have HX4:=Lib.hid hX4;have hbmO:¬(fun k=>k=rb) (rb+1+1):=by simp;omega
    have hfm4:=H1.out.2.2.1.chg ht4.chg hbmO;have hpb4:=ht4.chg.holds (by show ¬(rb+1=rb);omega) H1.out.2.2.2.1;have hk24:=ht4.chg.holds (by show ¬(rb+1+2=rb);omega) H1.out.2.2.2.2.1;have hk34:=ht4.chg.holds (by show ¬(rb+1+3=rb);omega) H1.out.2.2.2.2.2.1;have hk44:=ht4.chg.holds (by show ¬(rb+1+4=rb);omega) H1.out.2.2.2.2.2.2;have hO3:∀k,O k→3≤k:=fun k hk=>by rcases ht4.inO k hk with e|e;omega;omega
    have hOlt:∀k,O k→k=rb∨W1.heap.size≤k:=ht4.inO;have hpO:¬O (rb+1):=fun e=>by rcases hOlt _ e with e|e<;>omega
    have hszw:W1.heap.size≤w4.heap.size:=ht4.chg.size;have hCW4:Chg w w4 (fun k=>k=rb):=(Chg.below (by rw[HI.out.2.2.2.2];exact H1.out.2.1) _).trans ht4.chg (fun k _ h=>h);have hm4:Glob m w4:=HI.out.2.2.1.chg hCW4 (fun k hk=>by omega);have hL4:=HI.out.1.chg hCW4 (fun k hk e=>by have:=HI.out.2.1 k hk;have:=HI.out.2.2.2.2;omega);have hLO:∀k,L k→¬O k:=fun k hk e=>by have:=HI.out.2.1 k hk;have:=HI.out.2.2.2.2;rcases hOlt k e with e|e<;>omega
    clear hb34 hbmO hCW4;have hfb:=faults_le bt.data.toList;rw[←size_list] at hfb;have hss:(⟨bt.data.toList.toArray⟩:ByteArray)=bt:=ba_ext (by simp);obtain⟨d0,d1,d2⟩:=cells3 hX4;have CFA:=fault_any hr4 x.file x.text x.no 3 s1 (by omega);have e3:((3:Nat):Int)=3:=rfl;rw[e3] at CFA;clear e3 hb4 hX4 hL4
    by_cases cf:wt=⟨#[102,105,103]⟩
    ·subst cf;have LK:=hfm4.lookz_ok (T:=95) str_under cmap_under (do_zero w4) (s:=⟨#[102,105,103]⟩) (by show (3:Nat)≤maxLen;unfold maxLen;omega);rw[cmds_fig] at LK;unfold figV at LK;simp only[Option.isSome_some] at LK;unfold cmdR at HTO;rw[if_pos rfl] at HTO
     by_cases hbe:bt=⟨#[]⟩
     ·subst hbe;rw[if_pos rfl] at HTO;have FN:=fig_none hr4 (rb+1) x.file x.text x.no;have H4:=Lib.hid ht4;have HE:=Lib.hid HTO;clear ht4 hr4 hm4 hO3 hLO hfm4 hpb4 hk24 hk34 hk44 hpO hOlt HTO
      go_wp2_with fail
      refine FN.mono ?_;clear FN LK;rintro e w5 ⟨rfl,hr5,ht5⟩;have CFA:=fault_any hr5 x.file x.text x.no 3 s1 (by omega);have e3:((3:Nat):Int)=3:=rfl;rw[e3] at CFA;have hX5:=ht5.chg.holds hlO HX4.out;obtain⟨d0,d1,d2⟩:=cells3 hX5;have H5:=hidH2 hr5 ht5;clear hr5 ht5 hX5 e3
      go_wp2_with fail
      refine CFA.mono ?_;clear CFA;rintro e w6 ⟨rfl,O6,dv6,hr6,ht6⟩;have H6:=hidH2 hr6 ht6;clear hr6 ht6 d0 d1 d2;go_wp2
      go_roundg (ls.length-(pos+1+T.1))
      case measure=>omega
      case rel=>exact NEXT.out w6 O6 F bv dv6 (by rw[HE.out];simpa [wordR] using H6.out.1) ((H4.out.trans H5.out.2).trans H6.out.2)
     ·rw[if_neg (fun e=>hbe (ba_ext (by rw[e])))] at HTO;have FA:=fig_any hr4 hpb4 x.file x.text x.no bt (by omega) hbe hm4 hO3 (by omega) (by omega);have H4:=Lib.hid ht4;have HE:=Lib.hid HTO;clear ht4 hr4 hm4 hO3 hLO hfm4 hpb4 hk24 hk34 hk44 hpO hOlt HTO;clear CFA hbe
      go_wp2_with fail
      refine FA.mono ?_;clear FA LK;rintro e w5 ⟨rfl,O5,F5,bv5,dv5,hr5,ht5⟩;have H5:=hidH2 hr5 ht5;clear hr5 ht5 d0 d1 d2;go_wp2
      go_roundg (ls.length-(pos+1+T.1))
      case measure=>omega
      case rel=>exact NEXT.out w5 O5 F5 bv5 dv5 (by rw[HE.out];exact H5.out.1) (H4.out.trans H5.out.2)
    ·have hw0:=cf
     by_cases cnote:wt=⟨#[110,111,116,101]⟩
     ·subst cnote;have LK:=hfm4.lookz_ok (T:=95) str_under cmap_under (do_zero w4) (s:=⟨#[110,111,116,101]⟩) (by show (4:Nat)≤maxLen;unfold maxLen;omega);rw[cmds_note] at LK;unfold noteV at LK;simp only[Option.isSome_some] at LK;unfold cmdR at HTO;rw[if_neg (by decide),if_pos (by decide)] at HTO;unfold noteR at HTO;rw[hss] at HTO;have NA:=note1_any hr4 (kb:=rb+1+2) (pb:=rb+1) hk24 hpb4 (fun e=>by rcases hOlt _ e with e|e<;>omega) hpO x.file x.text x.no bt (by omega) hm4 (by omega) (by omega);have H4:=Lib.hid ht4;have HE:=Lib.hid HTO;clear ht4 hr4 hm4 hO3 hLO hfm4 hpb4 hk24 hk34 hk44 hpO hOlt HTO;clear CFA
      go_wp2_with fail
      refine NA.mono ?_;clear NA LK;rintro e w5 ⟨rfl,O5,F5,bv5,dv5,hr5,ht5⟩;have H5:=hidH2 hr5 ht5;clear hr5 ht5 d0 d1 d2;go_wp2
      go_roundg (ls.length-(pos+1+T.1))
      case measure=>omega
      case rel=>exact NEXT.out w5 O5 F5 bv5 dv5 (by rw[HE.out];exact H5.out.1) (H4.out.trans H5.out.2)
     ·skip
      by_cases ctip:wt=⟨#[116,105,112]⟩
      ·subst ctip;have LK:=hfm4.lookz_ok (T:=95) str_under cmap_under (do_zero w4) (s:=⟨#[116,105,112]⟩) (by show (3:Nat)≤maxLen;unfold maxLen;omega);rw[cmds_tip] at LK;unfold noteV at LK;simp only[Option.isSome_some] at LK;unfold cmdR at HTO;rw[if_neg (by decide),if_pos (by decide)] at HTO;unfold noteR at HTO;rw[hss] at HTO;have NA:=note1_any hr4 (kb:=rb+1+3) (pb:=rb+1) hk34 hpb4 (fun e=>by rcases hOlt _ e with e|e<;>omega) hpO x.file x.text x.no bt (by omega) hm4 (by omega) (by omega);have H4:=Lib.hid ht4;have HE:=Lib.hid HTO;clear ht4 hr4 hm4 hO3 hLO hfm4 hpb4 hk24 hk34 hk44 hpO hOlt HTO;clear CFA
       go_wp2_with fail
       refine NA.mono ?_;clear NA LK;rintro e w5 ⟨rfl,O5,F5,bv5,dv5,hr5,ht5⟩;have H5:=hidH2 hr5 ht5;clear hr5 ht5 d0 d1 d2;go_wp2
       go_roundg (ls.length-(pos+1+T.1))
       case measure=>omega
       case rel=>exact NEXT.out w5 O5 F5 bv5 dv5 (by rw[HE.out];exact H5.out.1) (H4.out.trans H5.out.2)
      ·skip
       by_cases cwarn:wt=⟨#[119,97,114,110]⟩
       ·subst cwarn;have LK:=hfm4.lookz_ok (T:=95) str_under cmap_under (do_zero w4) (s:=⟨#[119,97,114,110]⟩) (by show (4:Nat)≤maxLen;unfold maxLen;omega);rw[cmds_warn] at LK;unfold noteV at LK;simp only[Option.isSome_some] at LK;unfold cmdR at HTO;rw[if_neg (by decide),if_pos (by decide)] at HTO;unfold noteR at HTO;rw[hss] at HTO;have NA:=note1_any hr4 (kb:=rb+1+4) (pb:=rb+1) hk44 hpb4 (fun e=>by rcases hOlt _ e with e|e<;>omega) hpO x.file x.text x.no bt (by omega) hm4 (by omega) (by omega);have H4:=Lib.hid ht4;have HE:=Lib.hid HTO;clear ht4 hr4 hm4 hO3 hLO hfm4 hpb4 hk24 hk34 hk44 hpO hOlt HTO;clear CFA
        go_wp2_with fail
        refine NA.mono ?_;clear NA LK;rintro e w5 ⟨rfl,O5,F5,bv5,dv5,hr5,ht5⟩;have H5:=hidH2 hr5 ht5;clear hr5 ht5 d0 d1 d2;go_wp2
        go_roundg (ls.length-(pos+1+T.1))
        case measure=>omega
        case rel=>exact NEXT.out w5 O5 F5 bv5 dv5 (by rw[HE.out];exact H5.out.1) (H4.out.trans H5.out.2)
       ·have LK:=hfm4.lookz_ok (T:=95) str_under cmap_under (do_zero w4) (s:=wt) (by unfold maxLen;omega);rw[cmds_other _ hw0 cnote ctip cwarn] at LK;simp only[Option.isSome_none] at LK;unfold cmdR at HTO;rw[if_neg (fun e=>hw0 (ba_ext e)),if_neg (fun e=>by rcases e with e|e|e;exact cnote (ba_ext e);exact ctip (ba_ext e);exact cwarn (ba_ext e))] at HTO;have H4:=Lib.hid ht4;have HE:=Lib.hid HTO;clear ht4 hr4 hm4 hO3 hLO hfm4 hpb4 hk24 hk34 hk44 hpO hOlt HTO;clear hw0 cnote ctip cwarn
        go_wp2_with fail
        refine CFA.mono ?_;clear CFA LK;rintro e w5 ⟨rfl,O5,dv5,hr5,ht5⟩;have H5:=hidH2 hr5 ht5;clear hr5 ht5 d0 d1 d2;go_wp2
        go_roundg (ls.length-(pos+1+T.1))
        case measure=>omega
        case rel=>exact NEXT.out w5 O5 F bv dv5 (by rw[HE.out];simpa [wordR] using H5.out.1) (H4.out.trans H5.out.2)
  ·obtain rfl:pos=ls.length:=by omega
   have p2:wr.cell? ⟨rb,2,none⟩=some bv:=HK.out.1.hold.cell 2;have p3:wr.cell? ⟨rb,3,none⟩=some dv:=HK.out.1.hold.cell 3;obtain⟨A1,k1,rfl⟩:∃A c,bv=.slice A bs.length c:=by
    obtain⟨kvs,_,h2,_⟩:=HK.out.1.bl
    rcases h2.2 with ⟨h1,h2⟩|⟨g,cap,cur,h1,_⟩
    ·exact⟨none,0,by rw[h1,h2]⟩
    ·exact⟨_,_,h1⟩
   obtain⟨A2,k2,rfl⟩:∃A c,dv=.slice A ds.length c:=by
    rcases HK.out.1.dg.2 with ⟨h1,h2⟩|⟨g,cap,cur,h1,_⟩
    ·exact⟨none,0,by rw[h1,h2]⟩
    ·exact⟨_,_,h1⟩
   go_wp2
   go_quiet (fail)
   go_wp2
   go_ret2
   have hCW:Chg w (wr.drewN nq) (fun k=>k=rb):=((Chg.below (by rw[HI.out.2.2.2.2];exact H1.out.2.1) _).trans HK.out.2.1.chg (fun k _ h=>h)).drewN nq;have h1:=HK.out.1.chg ((Chg.refl wr (fun _=>False)).drewN nq) (fun _ _ h=>h) (fun _ _ h=>h);have h2:=HK.out.2.2.1;have h3:=HK.out.2.2.2.1;rw[List.drop_length,blocksOf_nil,List.append_nil] at h2;rw[List.drop_length,diagsOf_nil,List.append_nil] at h3;have h4:=HI.out.2.2.2.2;refine⟨O,F,rb,_,_,rfl,by rw[←h2,←h3];exact h1,fun k hk=>?_,fun k hk=>?_,hCW.toBelow (Nat.le_refl _) (fun k hk=>by omega)⟩
   ·rcases HK.out.2.1.inO k hk with e|e<;>omega
   ·rcases HK.out.2.1.inF k hk with e|e
    ·exact e.elim
    ·omega
end Go.Proofs.YtkkebmciiiajeaaGreatDoor
namespace Go.Bd
open Go.RowKit
structure At where
 name:ByteArray
 value:ByteArray
structure Sc where
 name:ByteArray
 text:ByteArray
def validB (s:Bs):Bool:=decide (s.length≤1024)&&s.all fun c=>decide (32≤c.toNat) && !(c==127)
def atB (a:At):Bool:=nameB a.name.data.toList&&validB a.value.data.toList
def risesB:List At→Bool
 | []=>true
 | [_]=>true
 | a::b::l=>decide (a.name.data.toList<b.name.data.toList)&&risesB (b::l)
def checkB (l:List At):Bool:=decide (l.length≤64)&&l.all atB&&risesB l
def getA (l:List At) (n:ByteArray):Option ByteArray:=(l.find? fun a=>decide (a.name=n)).map (·.value)
def ofB (s:Bs):ByteArray:=⟨s.toArray⟩
def cutB (c:UInt8):Bs→Option (Bs×Bs)
 | []=>none
 | x::l=>if x==c then some ([],l) else (cutB c l).map fun p=>(x::p.1,p.2)
def splitC (s:Bs):Nat×Bs×Bs :=
 if s.headD 0==33 then (1,s.tail,[])
 else match cutB 61 s with
  | none=>(0,s,[])
  | some (a,t)=>if a.getLastD 0==33 then (3,a.dropLast,t) else (2,a,t)
def holdsC (k:Nat) (v:Option ByteArray) (t:Bs):Bool :=
 if k=0 then v.isSome else if k=1 then !v.isSome else if k=2 then decide (v=some (ofB t)) else !decide (v=some (ofB t))
def askC (l:List At) (s:Bs):Option (ByteArray×Bool) :=
 if nameB (splitC s).2.1 then some (ofB (splitC s).2.1,holdsC (splitC s).1 (getA l (ofB (splitC s).2.1)) (splitC s).2.2) else none
def askedB (s:Bs):Option Bs :=
 match s with
 | 123::r=>match cutB 125 (r.take 61) with
  | some (a,_)=>if nameB a then some a else none
  | none=>none
 | _=>none
def hasN (l:List ByteArray) (n:ByteArray):Bool:=l.any fun x=>decide (x=n)
def addN (l:List ByteArray) (n:ByteArray):List ByteArray:=if hasN l n then l else l++[n]
def fillB (l:List At):Nat→Bs→List ByteArray→Bs×List ByteArray
 | 0,s,ns=>(s,ns)
 | _+1,[],ns=>([],ns)
 | n+1,c::s,ns =>
  match askedB (c::s) with
  | none=>(c::(fillB l n s ns).1,(fillB l n s ns).2)
  | some a =>
   let r:=fillB l n (s.drop (a.length+1)) (addN ns (ofB a))
   match getA l (ofB a) with
   | some v=>(v.data.toList++r.1,r.2)
   | none=>(123::(a++125::r.1),r.2)
def fillT (l:List At) (s:ByteArray):ByteArray:=ofB (fillB l s.size s.data.toList []).1
def fillN (l:List At) (s:ByteArray):List ByteArray:=(fillB l s.size s.data.toList []).2
def putN (l:List ByteArray) (n:ByteArray):List ByteArray:=l.filter (fun x=>!decide (x=n))++[n]
structure Cd where
 at':Ln
 first:Bool
 second:Bool
 other:Bool
def Cd.holds (c:Cd):Bool:=if c.other then c.second else c.first
structure Ast where
 attrs:List At
 count:Nat
 done:List ByteArray
 asked:List ByteArray
 begun:List ByteArray
 lines:List Ln
 diags:List Dg
 files:List ByteArray
 over:Bool
def Ast.tell (st:Ast) (l:Ln) (f:Nat) (t:ByteArray):Ast:={ st with diags:=st.diags++[⟨l.file,l.no,f,t⟩] }
def Ast.ask (st:Ast) (n:ByteArray):Ast:=if hasN st.done n then st else { st with asked:=putN st.asked n }
def Ast.asks (st:Ast) (l:List ByteArray):Ast:=l.foldl Ast.ask st
def Ast.fill (st:Ast) (s:ByteArray):Ast:=st.asks (fillN st.attrs s)
def insA (l:List At) (a:At):List At :=
 match l with
 | []=>[a]
 | b::l=>if a.name=b.name then a::l else if a.name.data.toList<b.name.data.toList then a::b::l else b::insA l a
def delA (l:List At) (n:ByteArray):List At:=l.filter fun a=>!decide (a.name=n)
def force (cs:List Cd):Bool:=match cs.getLast? with|none=>true|some c=>c.holds
abbrev Rs:Type:=Ast×List Cd
def beginM (l:Ln) (rest:Bs) (st:Ast) (cs:List Cd):Rs :=
 if force cs then
  match askC st.attrs rest with
  | none=>(st.tell l 3 l.text,cs++[⟨l,false,false,false⟩])
  | some p=>if 16≤cs.length then (st.tell l 5 l.text,cs++[⟨l,false,false,false⟩]) else (st.ask p.1,cs++[⟨l,p.2,!p.2,false⟩])
 else (st,cs++[⟨l,false,false,false⟩])
def turnM (l:Ln) (st:Ast) (cs:List Cd):Rs :=
 match cs.getLast? with
 | none=>(st.tell l 4 l.text,cs)
 | some c=>if c.other then (st.tell l 4 l.text,cs) else (st,cs.dropLast++[{ c with other:=true }])
def endM (l:Ln) (st:Ast) (cs:List Cd):Rs :=
 match cs.getLast? with
 | none=>(st.tell l 4 l.text,cs)
 | some _=>(st,cs.dropLast)
def dotsB:Bs→List Bs
 | []=>[[]]
 | c::s=>if c==46 then []::dotsB s else match dotsB s with|[]=>[[c]]|a::l=>(c::a)::l
def pathB (s:Bs):Bool:=decide (s.length≤60)&&(dotsB s).all nameB
def findS (src:List Sc) (n:ByteArray):Option ByteArray:=(src.find? fun s=>decide (s.name=n)).map (·.text)
def inclM (inc:ByteArray→ByteArray→Ast→Ast) (src:List Sc) (opens:List ByteArray) (l:Ln) (rest:ByteArray) (st:Ast):Ast :=
 if pathB rest.data.toList=false then st.tell l 3 l.text
 else if hasN opens rest then st.tell l 2 rest
 else if 16≤opens.length then st.tell l 5 rest
 else match findS src rest with
  | none=>st.tell l 1 rest
  | some t=>inc rest t st
def wordB (s:Bs):Bs×Bs :=
 if 0≤Lib.indexAny s [32,9] then (s.take (Lib.indexAny s [32,9]).toNat,trim (s.drop (Lib.indexAny s [32,9]).toNat)) else (s,[])
def setM (l:Ln) (rest:Bs) (st:Ast):Ast :=
 let v:=ofB (wordB rest).2
 let st1:=st.fill v
 let v':=fillT st.attrs v
 if nameB (wordB rest).1&&validB v'.data.toList then { st1 with done:=putN st1.done (ofB (wordB rest).1),attrs:=insA st1.attrs ⟨ofB (wordB rest).1,v'⟩ }
 else st1.tell l 3 l.text
def unsetM (l:Ln) (rest:ByteArray) (st:Ast):Ast :=
 if nameB rest.data.toList then { st with done:=putN st.done rest,attrs:=delA st.attrs rest } else st.tell l 3 l.text
def wIf:Bs:=[64,105,102]
def wElse:Bs:=[64,101,108,115,101]
def wEnd:Bs:=[64,101,110,100]
def wIncl:Bs:=[64,105,110,99,108,117,100,101]
def wSet:Bs:=[64,115,101,116]
def wUnset:Bs:=[64,117,110,115,101,116]
def lineM (inc:ByteArray→ByteArray→Ast→Ast) (src:List Sc) (opens:List ByteArray) (l:Ln) (st:Ast) (cs:List Cd):Rs :=
 let s:=l.text.data.toList
 if s.headD 0==64 then
  let w:=(wordB s).1
  let rest:=(wordB s).2
  if w=wIf then beginM l rest st cs
  else if w=wElse then turnM l st cs
  else if w=wEnd then endM l st cs
  else if force cs=false then (st,cs)
  else if w=wIncl then (inclM inc src opens l (ofB rest) st,cs)
  else if w=wSet then (setM l rest st,cs)
  else if w=wUnset then (unsetM l (ofB rest) st,cs)
  else (st.tell l 3 l.text,cs)
 else if force cs then
  let t:=ofB (if Lib.hasPrefix s [92,64] then s.drop 1 else s)
  let st1:=st.fill t
  ({ st1 with lines:=st1.lines++[⟨l.file,l.no,fillT st.attrs t⟩] },cs)
 else (st,cs)
def linesM (inc:ByteArray→ByteArray→Ast→Ast) (src:List Sc) (opens:List ByteArray) (f:ByteArray):Nat→List ByteArray→Ast→List Cd→Rs
 | _,[],st,cs=>(st,cs)
 | i,t::ts,st,cs =>
  if 16384≤st.count then ({ st.tell ⟨f,(i:Int)+1,t⟩ 6 ⟨#[]⟩ with over:=true },cs)
  else
   let p:=lineM inc src opens ⟨f,(i:Int)+1,t⟩ { st with count:=st.count+1 } cs
   if p.1.over then p else linesM inc src opens f (i+1) ts p.1 p.2
def nlsB:Bs→List Bs
 | []=>[[]]
 | c::s=>if c==10 then []::nlsB s else match nlsB s with|[]=>[[c]]|a::l=>(c::a)::l
def linesT (s:ByteArray):List ByteArray :=
 if s.data.toList=[] then [] else (nlsB (if s.data.toList.getLastD 0==10 then s.data.toList.dropLast else s.data.toList)).map ofB
def beginS (st:Ast) (n:ByteArray):Ast:=if hasN st.begun n then st else { st with begun:=putN st.begun n,files:=st.files++[n] }
def readM (src:List Sc):Nat→List ByteArray→ByteArray→ByteArray→Ast→Ast
 | 0,_,n,_,st=>beginS st n
 | d+1,opens,n,t,st =>
  let p:=linesM (fun m u s=>readM src d (opens++[n]) m u s) src (opens++[n]) n 0 (linesT t) (beginS st n) []
  if p.1.over then p.1 else p.2.foldl (fun s c=>s.tell c.at' 4 ⟨#[]⟩) p.1
theorem readM_succ (src:List Sc) (d:Nat) (opens:List ByteArray) (n t:ByteArray) (st:Ast):readM src (d+1) opens n t st =
  if (linesM (fun m u s=>readM src d (opens++[n]) m u s) src (opens++[n]) n 0 (linesT t) (beginS st n) []).1.over then (linesM (fun m u s=>readM src d (opens++[n]) m u s) src (opens++[n]) n 0 (linesT t) (beginS st n) []).1
  else (linesM (fun m u s=>readM src d (opens++[n]) m u s) src (opens++[n]) n 0 (linesT t) (beginS st n) []).2.foldl (fun s c=>s.tell c.at' 4 ⟨#[]⟩) (linesM (fun m u s=>readM src d (opens++[n]) m u s) src (opens++[n]) n 0 (linesT t) (beginS st n) []).1:=rfl
def firstA (attrs:List At):Ast:=⟨if checkB attrs then attrs else [],0,[],[],[],[],[],[],false⟩
def readS (src:List Sc) (attrs:List At) (n:ByteArray):Ast :=
 match findS src n with
 | none=>{ firstA [] with diags:=[⟨n,0,1,n⟩] }
 | some t=>readM src 16 [] n t (firstA attrs)
theorem hasN_iff {l:List ByteArray}{n:ByteArray}:hasN l n=true↔n∈l:=by simp[hasN]
theorem addN_mem {l:List ByteArray}{n m:ByteArray}:m∈addN l n↔m∈l∨m=n:=by
 unfold addN
 by_cases h:hasN l n=true
 ·rw[if_pos h];have:=hasN_iff.1 h
  constructor
  ·exact .inl
  ·rintro (h|rfl)
   ·exact h
   ·exact this
 ·rw[if_neg h];simp
section
variable {s1 s2:List Sc} {a1 a2:List At} {s t:Ast}
theorem asks_attrs:∀(l:List ByteArray) (s:Ast),(s.asks l).attrs=s.attrs∧(s.asks l).done=s.done∧(s.asks l).over=s.over∧(s.asks l).lines=s.lines
 | [],_=>⟨rfl,rfl,rfl,rfl⟩
 | n::l,s=>by
  have h:=asks_attrs l (s.ask n);have e:(s.ask n).attrs=s.attrs∧(s.ask n).done=s.done∧(s.ask n).over=s.over∧(s.ask n).lines=s.lines:=by unfold Ast.ask;split<;>exact⟨rfl,rfl,rfl,rfl⟩
  exact⟨h.1.trans e.1,h.2.1.trans e.2.1,h.2.2.1.trans e.2.2.1,h.2.2.2.trans e.2.2.2⟩
end
def cntB (w:Bs):Bs→Nat
 | []=>0
 | c::l=>(if Lib.hasPrefix (c::l) w then 1 else 0)+cntB w l
def inclW:Bs:=[105,110,99,108,117,100,101]
theorem hasPrefix_app {w a:Bs} (b:Bs) (h:Lib.hasPrefix a w=true):Lib.hasPrefix (a++b) w=true:=by
 unfold Lib.hasPrefix at h ⊢;rw[List.isPrefixOf_iff_prefix] at h ⊢;exact h.trans (List.prefix_append a b)
theorem cntB_app (w:Bs):∀a b:Bs,cntB w a≤cntB w (a++b)
 | [],b=>Nat.zero_le _
 | c::a,b=>by
  have ih:=cntB_app w a b
  show (if Lib.hasPrefix (c::a) w then 1 else 0)+cntB w a≤(if Lib.hasPrefix (c::(a++b)) w then 1 else 0)+cntB w (a++b)
  by_cases h:Lib.hasPrefix (c::a) w=true
  ·have h2:Lib.hasPrefix (c::(a++b)) w=true:=hasPrefix_app b h;rw[if_pos h,if_pos h2];omega
  ·rw[if_neg h];split<;>omega
theorem nlsB_head:∀s:Bs,∃a l,nlsB s=a::l∧∃b,s=a++b
 | []=>⟨[],[],rfl,[],rfl⟩
 | c::s=>by
  obtain⟨a,l,h1,b,h2⟩:=nlsB_head s;unfold nlsB
  by_cases h:(c==10)=true
  ·rw[if_pos h];exact⟨[],nlsB s,rfl,c::s,rfl⟩
  ·rw[if_neg h,h1];exact⟨c::a,l,rfl,b,by rw[h2];rfl⟩
theorem nlsB_cnt (w:Bs):∀s:Bs,((nlsB s).map (cntB w)).sum≤cntB w s
 | []=>Nat.le_refl _
 | c::s=>by
  have ih:=nlsB_cnt w s;obtain⟨a,l,h1,b,h2⟩:=nlsB_head s;unfold nlsB
  by_cases h:(c==10)=true
  ·rw[if_pos h];simp only[List.map_cons,List.sum_cons]
   show cntB w []+_≤_+cntB w s
   have:cntB w []=0:=rfl
   omega
  ·rw[if_neg h,h1];rw[h1] at ih;simp only[List.map_cons,List.sum_cons] at ih ⊢
   show (if Lib.hasPrefix (c::a) w then 1 else 0)+cntB w a+_≤(if Lib.hasPrefix (c::s) w then 1 else 0)+cntB w s
   by_cases hp:Lib.hasPrefix (c::a) w=true
   ·have h3:Lib.hasPrefix (c::s) w=true:=by rw[h2];exact hasPrefix_app b hp
    rw[if_pos hp,if_pos h3];omega
   ·rw[if_neg hp];split<;>omega
theorem nlsB_len:∀s:Bs,((nlsB s).map (fun x=>x.length+1)).sum=s.length+1
 | []=>rfl
 | c::s=>by
  have ih:=nlsB_len s;obtain⟨a,l,h1,_⟩:=nlsB_head s;unfold nlsB
  by_cases h:(c==10)=true
  ·rw[if_pos h];simp only[List.map_cons,List.sum_cons,List.length_nil,List.length_cons];omega
  ·rw[if_neg h,h1];rw[h1] at ih;simp only[List.map_cons,List.sum_cons,List.length_cons] at ih ⊢;omega
theorem size_ofB (s:Bs):(ofB s).size=s.length:=by simp[ofB,ByteArray.size]
theorem size_lst (x:ByteArray):x.data.toList.length=x.size:=by rw[Array.length_toList];rfl
theorem list_ofB (s:Bs):(ofB s).data.toList=s:=by simp[ofB]
def rawT (l:List ByteArray):Nat:=(l.map fun x=>x.size+1).sum
def cntT (l:List ByteArray):Nat:=(l.map fun x=>cntB inclW x.data.toList).sum
theorem linesT_raw (s:ByteArray):rawT (linesT s)≤s.size+1:=by
 unfold linesT rawT;split
 ·simp
 ·rw[List.map_map];have e:(List.map ((fun x=>x.size+1) ∘ ofB) (nlsB (if s.data.toList.getLastD 0==10 then s.data.toList.dropLast else s.data.toList)))=(nlsB (if s.data.toList.getLastD 0==10 then s.data.toList.dropLast else s.data.toList)).map (fun x=>x.length+1):=by
   apply List.map_congr_left
   intro x _;simp[size_ofB]
  rw[e,nlsB_len];have:s.size=s.data.toList.length:=(size_lst s).symm
  split
  ·rw[List.length_dropLast];omega
  ·omega
theorem linesT_cnt (s:ByteArray):cntT (linesT s)≤cntB inclW s.data.toList:=by
 unfold linesT cntT;split
 ·simp
 ·rw[List.map_map];have e:(List.map ((fun x=>cntB inclW x.data.toList) ∘ ofB) (nlsB (if s.data.toList.getLastD 0==10 then s.data.toList.dropLast else s.data.toList)))=(nlsB (if s.data.toList.getLastD 0==10 then s.data.toList.dropLast else s.data.toList)).map (cntB inclW):=by
   apply List.map_congr_left
   intro x _;simp[list_ofB]
  rw[e];refine Nat.le_trans (nlsB_cnt _ _) ?_;split
  ·rename_i hne _;have:=cntB_app inclW s.data.toList.dropLast [s.data.toList.getLast hne]
   rw[List.dropLast_concat_getLast] at this;exact this
  ·exact Nat.le_refl _
theorem cutB_len {c:UInt8}:∀{s a b:Bs},cutB c s=some (a,b)→a.length+1+b.length=s.length
 | [],_,_,h=>by cases h
 | x::s,a,b,h=>by
  unfold cutB at h;split at h
  ·cases h;simp;omega
  ·cases hc:cutB c s with
   | none=>rw[hc] at h;cases h
   | some p =>
    rw[hc] at h;obtain⟨p1,p2⟩:=p;cases h
    have:=cutB_len hc
    simp only[List.length_cons];omega
theorem askedB_len {s a:Bs} (h:askedB s=some a):1≤a.length∧a.length+2≤s.length:=by
 unfold askedB at h;split at h
 ·rename_i r;cases hc:cutB 125 (r.take 61) with
  | none=>rw[hc] at h;cases h
  | some p =>
   obtain⟨x,y⟩:=p;rw[hc] at h;dsimp only at h;split at h
   ·rename_i hn;cases h
    have:=cutB_len hc
    rw[List.length_take] at this;unfold nameB at hn;simp only[Bool.and_eq_true,decide_eq_true_eq] at hn;have:=hn.1.1.1
    rw[List.length_cons];omega
   ·cases h
 ·cases h
theorem getA_mem {l:List At}{n v:ByteArray} (h:getA l n=some v):∃a∈l,a.value=v:=by
 unfold getA at h;rw[Option.map_eq_some_iff] at h;obtain⟨a,h1,h2⟩:=h;exact⟨a,List.mem_of_find?_eq_some h1,h2⟩
theorem fillB_len {l:List At} (hl:∀a∈l,a.value.size≤1024):∀(n:Nat) (s:Bs) (ns:List ByteArray),(fillB l n s ns).1.length≤342*s.length∧(fillB l n s ns).2.length≤ns.length+s.length
 | 0,s,ns=>⟨by show s.length≤_;omega,by show ns.length≤_;omega⟩
 | _+1,[],ns=>⟨Nat.zero_le _,Nat.le_refl _⟩
 | n+1,c::s,ns=>by
  unfold fillB;cases hA:askedB (c::s) with
  | none =>
   have ih:=fillB_len hl n s ns;simp only[List.length_cons];omega
  | some a =>
   have ih:=fillB_len hl n (s.drop (a.length+1)) (addN ns (ofB a));have ha:=askedB_len hA;have hd:(addN ns (ofB a)).length≤ns.length+1:=by unfold addN;split<;>simp
   rw[List.length_drop] at ih;rw[List.length_cons] at ha;dsimp only;cases hg:getA l (ofB a) with
   | none =>
    simp only[List.length_cons,List.length_append];omega
   | some v =>
    obtain⟨x,hx,rfl⟩:=getA_mem hg;have hv:=hl x hx;have hz:=size_lst x.value;simp only[List.length_cons,List.length_append];omega
theorem fillT_size {l:List At} (hl:∀a∈l,a.value.size≤1024) (s:ByteArray):(fillT l s).size≤342*s.size:=by
 have:=(fillB_len hl s.size s.data.toList []).1
 have hz:=size_lst s;unfold fillT;rw[size_ofB];omega
theorem fillN_len {l:List At} (hl:∀a∈l,a.value.size≤1024) (s:ByteArray):(fillN l s).length≤s.size:=by
 have:=(fillB_len hl s.size s.data.toList []).2
 have hz:=size_lst s;unfold fillN;simp at this;omega
def lnW:List Ln→Nat
 | []=>0
 | x::l=>x.text.size+1+lnW l
theorem lnW_append:∀a b:List Ln,lnW (a++b)=lnW a+lnW b
 | [],b=>by simp[lnW]
 | x::a,b=>by rw[List.cons_append,lnW,lnW,lnW_append a b];omega
def Vals (s:Ast):Prop:=∀a∈s.attrs,a.value.size≤1024
theorem insA_mem {a:At}:∀{l:List At}{b:At},b∈insA l a→b=a∨b∈l
 | [],b,h=>by simp[insA] at h;exact .inl h
 | x::l,b,h=>by
  unfold insA at h;split at h
  ·rcases List.mem_cons.1 h with h|h
   ·exact .inl h
   ·exact .inr (List.mem_cons_of_mem _ h)
  ·split at h
   ·rcases List.mem_cons.1 h with h|h
    ·exact .inl h
    ·exact .inr h
   ·rcases List.mem_cons.1 h with h|h
    ·exact .inr (List.mem_cons.2 (.inl h))
    ·rcases insA_mem h with h|h
     ·exact .inl h
     ·exact .inr (List.mem_cons_of_mem _ h)
theorem vals_fill {s:Ast} (h:Vals s) (x:ByteArray):Vals (s.fill x):=by
 unfold Vals Ast.fill;rw[(asks_attrs _ s).1];exact h
theorem lines_fill (s:Ast) (x:ByteArray):(s.fill x).lines=s.lines:=(asks_attrs _ s).2.2.2
def wordIs (l:Ln):Bool:=decide ((wordB l.text.data.toList).1=wIncl)
theorem wordIs_cnt {l:Ln} (h:wordIs l=true):1≤cntB inclW l.text.data.toList:=by
 unfold wordIs at h;rw[decide_eq_true_eq] at h;unfold wordB at h;have key:∀s:Bs,(∃b,s=wIncl++b)→1≤cntB inclW s:=by
  rintro s ⟨b,rfl⟩;refine Nat.le_trans ?_ (cntB_app inclW wIncl b);decide
 split at h
 ·refine key _ ⟨l.text.data.toList.drop (Lib.indexAny l.text.data.toList [32,9]).toNat,?_⟩;rw[←h];exact (List.take_append_drop _ _).symm
 ·refine key _ ⟨[],?_⟩;rw[←h];exact (List.append_nil _).symm
theorem line_w {inc:ByteArray→ByteArray→Ast→Ast}{src:List Sc}{opens:List ByteArray}{M:Nat} (hI:∀n t s,hasN opens n=false→findS src n=some t→Vals s→Vals (inc n t s)∧lnW (inc n t s).lines≤lnW s.lines+M) (l:Ln){s:Ast} (hv:Vals s) (cs:List Cd) :
  Vals (lineM inc src opens l s cs).1∧lnW (lineM inc src opens l s cs).1.lines≤lnW s.lines+342*(l.text.size+1)+(if wordIs l then M else 0):=by
 have hT:∀(st:Ast) (f:Nat) (t:ByteArray),Vals st→Vals (st.tell l f t)∧(st.tell l f t).lines=st.lines:=fun st f t h=>⟨h,rfl⟩
 unfold lineM;dsimp only;split
 ·split
  ·unfold beginM;split
   ·split
    ·exact⟨hv,by show lnW s.lines≤_;omega⟩
    ·split
     ·exact⟨hv,by show lnW s.lines≤_;omega⟩
     ·rename_i p _ _;have:=asks_attrs [p.1] s
      have e:s.asks [p.1]=s.ask p.1:=rfl;rw[e] at this;refine⟨by unfold Vals;rw[this.1];exact hv,?_⟩;rw[this.2.2.2];omega
   ·exact⟨hv,by show lnW s.lines≤_;omega⟩
  split
  ·unfold turnM;split
   ·exact⟨hv,by show lnW s.lines≤_;omega⟩
   ·split
    ·exact⟨hv,by show lnW s.lines≤_;omega⟩
    ·exact⟨hv,by show lnW s.lines≤_;omega⟩
  split
  ·unfold endM;split
   ·exact⟨hv,by show lnW s.lines≤_;omega⟩
   ·exact⟨hv,by show lnW s.lines≤_;omega⟩
  split
  ·exact⟨hv,by show lnW s.lines≤_;omega⟩
  split
  ·rename_i hw;have hw2:wordIs l=true:=by unfold wordIs;exact decide_eq_true hw
   rw[hw2];unfold inclM;split
   ·exact⟨hv,by show lnW s.lines≤_;omega⟩
   split
   ·exact⟨hv,by show lnW s.lines≤_;omega⟩
   rename_i ho;split
   ·exact⟨hv,by show lnW s.lines≤_;omega⟩
   split
   ·exact⟨hv,by show lnW s.lines≤_;omega⟩
   ·rename_i t ht;have:=hI (ofB (wordB l.text.data.toList).2) t s (by simpa using ho) ht hv
    refine⟨this.1,?_⟩;have h2:=this.2;rw[if_pos rfl];dsimp only;omega
  split
  ·unfold setM;dsimp only;split
   ·rename_i hok;refine⟨fun a ha=>?_,?_⟩
    ·rcases insA_mem ha with rfl|ha
     ·simp only[Bool.and_eq_true] at hok;have:=hok.2
      unfold validB at this;simp only[Bool.and_eq_true,decide_eq_true_eq] at this;have hz:=size_lst;rw[hz] at this;exact this.1
     ·exact vals_fill hv _ a ha
    ·show lnW (s.fill _).lines≤_
     rw[lines_fill];omega
   ·refine⟨vals_fill hv _,?_⟩
    show lnW (s.fill _).lines≤_
    rw[lines_fill];omega
  split
  ·unfold unsetM;split
   ·exact⟨fun a ha=>hv a (List.mem_filter.1 ha).1,by show lnW s.lines≤_;omega⟩
   ·exact⟨hv,by show lnW s.lines≤_;omega⟩
  ·exact⟨hv,by show lnW s.lines≤_;omega⟩
 ·split
  ·refine⟨vals_fill hv _,?_⟩
   show lnW ((s.fill _).lines++_)≤_
   rw[lines_fill,lnW_append];have:=fillT_size hv (ofB (if Lib.hasPrefix l.text.data.toList [92,64]=true then l.text.data.toList.drop 1 else l.text.data.toList))
   have hz:=size_lst l.text;have h2:(ofB (if Lib.hasPrefix l.text.data.toList [92,64]=true then l.text.data.toList.drop 1 else l.text.data.toList)).size≤l.text.size:=by
    rw[size_ofB];split
    ·rw[List.length_drop];omega
    ·omega
   simp only[lnW];omega
  ·exact⟨hv,by show lnW s.lines≤_;omega⟩
theorem lines_w {inc:ByteArray→ByteArray→Ast→Ast}{src:List Sc}{opens:List ByteArray}{M:Nat} (hI:∀n t s,hasN opens n=false→findS src n=some t→Vals s→Vals (inc n t s)∧lnW (inc n t s).lines≤lnW s.lines+M) (f:ByteArray) :
  ∀(ts:List ByteArray) (i:Nat) (s:Ast) (cs:List Cd),Vals s→Vals (linesM inc src opens f i ts s cs).1∧lnW (linesM inc src opens f i ts s cs).1.lines≤lnW s.lines+342*rawT ts+cntT ts*M
 | [],_,s,_,hv=>⟨hv,by show lnW s.lines≤_;omega⟩
 | t::ts,i,s,cs,hv=>by
  have e1:rawT (t::ts)=t.size+1+rawT ts:=by simp[rawT]
  have e2:cntT (t::ts)=cntB inclW t.data.toList+cntT ts:=by simp[cntT]
  unfold linesM;split
  ·exact⟨hv,by show lnW s.lines≤_;omega⟩
  ·dsimp only;have h1:=line_w hI ⟨f,(i:Int)+1,t⟩ (s:={ s with count:=s.count+1 }) hv cs;have h3:(if wordIs ⟨f,(i:Int)+1,t⟩ then M else 0)≤cntB inclW t.data.toList*M:=by
    split
    ·rename_i hw;have:=wordIs_cnt hw
     calc M=1*M:=(Nat.one_mul M).symm
      _≤_:=Nat.mul_le_mul_right M this
    ·exact Nat.zero_le _
   have h2:lnW { s with count:=s.count+1 }.lines=lnW s.lines:=rfl;have e3:(cntB inclW t.data.toList+cntT ts)*M=cntB inclW t.data.toList*M+cntT ts*M:=Nat.add_mul _ _ _;rw[e1,e2,e3];dsimp only at h1;split
   ·exact⟨h1.1,by omega⟩
   ·have ih:=lines_w hI f ts (i+1) _ (lineM inc src opens ⟨f,(i:Int)+1,t⟩ { s with count:=s.count+1 } cs).2 h1.1;exact⟨ih.1,by omega⟩
def shutS (src:List Sc) (opens:List ByteArray):List Sc:=src.filter fun s=>!hasN opens s.name
def cntS (l:List Sc):Nat:=(l.map fun s=>cntB inclW s.text.data.toList).sum
def rawS (l:List Sc):Nat:=(l.map fun s=>s.text.size+1).sum
theorem shut_more {src:List Sc}{opens:List ByteArray}{n t:ByteArray} (ho:hasN opens n=false) (hf:findS src n=some t) :
  cntB inclW t.data.toList+cntS (shutS src (opens++[n]))≤cntS (shutS src opens)∧t.size+1+rawS (shutS src (opens++[n]))≤rawS (shutS src opens):=by
 induction src with
 | nil=>cases hf
 | cons x src ih =>
  have hh:∀m,hasN (opens++[n]) m=(hasN opens m || decide (n=m)):=fun m=>by simp[hasN]
  by_cases hx:x.name=n
  ·have ht:x.text=t:=by simpa [findS,hx] using hf
   have e1:shutS (x::src) opens=x::shutS src opens:=by unfold shutS;rw[List.filter_cons_of_pos (by rw[hx,ho];rfl)]
   have e2:shutS (x::src) (opens++[n])=shutS src (opens++[n]):=by unfold shutS;rw[List.filter_cons_of_neg (by rw[hh,hx];simp)]
   have hsub:∀l:List Sc,cntS (shutS l (opens++[n]))≤cntS (shutS l opens)∧rawS (shutS l (opens++[n]))≤rawS (shutS l opens):=by
    intro l
    induction l with
    | nil=>exact⟨Nat.le_refl _,Nat.le_refl _⟩
    | cons y l ihl =>
     unfold shutS cntS rawS at *
     by_cases h1:hasN opens y.name=true
     ·rw[List.filter_cons_of_neg (by rw[hh,h1];simp),List.filter_cons_of_neg (by rw[h1];simp)];exact ihl
     ·have h1':hasN opens y.name=false:=by simpa using h1
      rw[List.filter_cons_of_pos (a:=y) (l:=l) (p:=fun s=>!hasN opens s.name) (by rw[h1'];rfl)]
      by_cases h2:n=y.name
      ·rw[List.filter_cons_of_neg (by rw[hh];simp[h2])];simp only[List.map_cons,List.sum_cons];omega
      ·rw[List.filter_cons_of_pos (by rw[hh,h1'];simp[h2])];simp only[List.map_cons,List.sum_cons];omega
   rw[e1,e2];have:=hsub src
   unfold cntS rawS at *;simp only[List.map_cons,List.sum_cons,ht];omega
  ·have hf2:findS src n=some t:=by
    unfold findS at hf ⊢;rw[List.find?_cons_of_neg (by simp[hx])] at hf;exact hf
   have ih':=ih hf2;have h2:¬n=x.name:=fun e=>hx e.symm
   by_cases h1:hasN opens x.name=true
   ·have e1:shutS (x::src) opens=shutS src opens:=by unfold shutS;rw[List.filter_cons_of_neg (by rw[h1];simp)]
    have e2:shutS (x::src) (opens++[n])=shutS src (opens++[n]):=by unfold shutS;rw[List.filter_cons_of_neg (by rw[hh,h1];simp)]
    rw[e1,e2];exact ih'
   ·have h1':hasN opens x.name=false:=by simpa using h1
    have e1:shutS (x::src) opens=x::shutS src opens:=by unfold shutS;rw[List.filter_cons_of_pos (by rw[h1'];rfl)]
    have e2:shutS (x::src) (opens++[n])=x::shutS src (opens++[n]):=by unfold shutS;rw[List.filter_cons_of_pos (by rw[hh,h1'];simp[h2])]
    rw[e1,e2];unfold cntS rawS at *;simp only[List.map_cons,List.sum_cons];omega
theorem two_three:∀c:Nat,c*2 ^ c≤3 ^ c
 | 0=>by decide
 | 1=>by decide
 | 2=>by decide
 | c+3=>by
  have ih:=two_three (c+2);have e1:2 ^ (c+3)=2 ^ (c+2)*2:=Nat.pow_succ _ _;have e2:3 ^ (c+3)=3 ^ (c+2)*3:=Nat.pow_succ _ _;rw[e1,e2];have h1:(c+3)*(2 ^ (c+2)*2)=((c+3)*2)*2 ^ (c+2):=by rw[Nat.mul_comm (2 ^ (c+2)) 2,Nat.mul_assoc]
  have h2:((c+3)*2)*2 ^ (c+2)≤((c+2)*3)*2 ^ (c+2):=Nat.mul_le_mul_right _ (by omega);have h3:((c+2)*3)*2 ^ (c+2)=((c+2)*2 ^ (c+2))*3:=by rw[Nat.mul_right_comm]
  omega
theorem pow23 {K K' D W:Nat} (h:2 ^ K'*D≤W*3 ^ K') (hk:K'≤K):2 ^ K*D≤W*3 ^ K:=by
 obtain⟨j,rfl⟩:=Nat.le.dest hk;rw[Nat.pow_add,Nat.pow_add,Nat.mul_assoc,Nat.mul_comm (2 ^ j),←Nat.mul_assoc,←Nat.mul_assoc];exact Nat.mul_le_mul h (Nat.pow_le_pow_left (by decide) j)
def mostD (src:List Sc) (opens:List ByteArray):Nat:=(342*rawS (shutS src opens)*3 ^ cntS (shutS src opens)) / 2 ^ cntS (shutS src opens)
theorem most_step {src:List Sc}{opens:List ByteArray}{n t:ByteArray} (ho:hasN opens n=false) (hf:findS src n=some t) :
  342*(t.size+1)+cntB inclW t.data.toList*mostD src (opens++[n])≤mostD src opens:=by
 obtain⟨h1,h2⟩:=shut_more ho hf;unfold mostD;generalize cntB inclW t.data.toList=c at *;generalize cntS (shutS src (opens++[n]))=K' at *;generalize rawS (shutS src (opens++[n]))=W' at *;generalize cntS (shutS src opens)=K at *;generalize rawS (shutS src opens)=W at *;generalize t.size+1=T at *;have hM:2 ^ K'*((342*W'*3 ^ K') / 2 ^ K')≤342*W'*3 ^ K':=Nat.mul_div_le _ _;generalize (342*W'*3 ^ K') / 2 ^ K'=M at *;rw[Nat.le_div_iff_mul_le (Nat.pow_pos (by decide)),Nat.mul_comm];refine pow23 (K':=c+K') ?_ h1;rw[Nat.mul_add];have e1:2 ^ (c+K')*(342*T)≤(342*T)*3 ^ (c+K'):=by
  rw[Nat.mul_comm];exact Nat.mul_le_mul_left _ (Nat.pow_le_pow_left (by decide) _)
 have e2:2 ^ (c+K')*(c*M)≤(342*W')*3 ^ (c+K'):=by
  calc 2 ^ (c+K')*(c*M)=(c*2 ^ c)*(2 ^ K'*M):=by
        rw[Nat.pow_add,Nat.mul_assoc,Nat.mul_assoc,Nat.mul_left_comm (2 ^ K'),Nat.mul_left_comm (2 ^ c)]
   _≤3 ^ c*(342*W'*3 ^ K'):=Nat.mul_le_mul (two_three c) hM
   _=(342*W')*3 ^ (c+K'):=by rw[Nat.pow_add,Nat.mul_left_comm]
 calc _≤(342*T)*3 ^ (c+K')+(342*W')*3 ^ (c+K'):=Nat.add_le_add e1 e2
  _=(342*(T+W'))*3 ^ (c+K'):=by rw[←Nat.add_mul,←Nat.mul_add]
  _≤(342*W)*3 ^ (c+K'):=Nat.mul_le_mul_right _ (Nat.mul_le_mul_left _ h2)
theorem read_w (src:List Sc):∀(d:Nat) (opens:List ByteArray) (n t:ByteArray) (s:Ast),hasN opens n=false→findS src n=some t→Vals s →
  Vals (readM src d opens n t s)∧lnW (readM src d opens n t s).lines≤lnW s.lines+mostD src opens
 | 0,opens,n,t,s,_,_,hv=>by
  show Vals (beginS s n)∧lnW (beginS s n).lines≤_
  unfold beginS;split
  ·exact⟨hv,Nat.le_add_right _ _⟩
  ·exact⟨hv,Nat.le_add_right _ _⟩
 | d+1,opens,n,t,s,ho,hf,hv=>by
  have hb:Vals (beginS s n)∧(beginS s n).lines=s.lines:=by
   unfold beginS;split
   ·exact⟨hv,rfl⟩
   ·exact⟨hv,rfl⟩
  have hl:=lines_w (inc:=fun m u s=>readM src d (opens++[n]) m u s) (src:=src) (opens:=opens++[n]) (M:=mostD src (opens++[n])) (fun m u s h1 h2 h3=>read_w src d (opens++[n]) m u s h1 h2 h3) n (linesT t) 0 (beginS s n) [] hb.1;have h1:=linesT_raw t;have h2:=Nat.mul_le_mul_right (mostD src (opens++[n])) (linesT_cnt t);have h3:=most_step ho hf;rw[hb.2] at hl;have ht:∀(cs:List Cd) (s:Ast),(cs.foldl (fun s c=>s.tell c.at' 4 ⟨#[]⟩) s).attrs=s.attrs∧(cs.foldl (fun s c=>s.tell c.at' 4 ⟨#[]⟩) s).lines=s.lines:=by
   intro cs
   induction cs with
   | nil=>exact fun s=>⟨rfl,rfl⟩
   | cons c cs ih=>exact fun s=>ih (s.tell c.at' 4 ⟨#[]⟩)
  rw[readM_succ];split
  ·exact⟨hl.1,by omega⟩
  ·refine⟨by unfold Vals;rw[(ht _ _).1];exact hl.1,?_⟩;rw[(ht _ _).2];omega
def halfs:Nat→Nat→Nat
 | 0,n=>n
 | k+1,n=>halfs k (n*3 / 2)
theorem halfs_le:∀(k n:Nat),3 ^ k*(n-1)≤2 ^ k*(halfs k n-1)
 | 0,n=>by simp[halfs]
 | k+1,n=>by
  have ih:=halfs_le k (n*3 / 2)
  show 3 ^ (k+1)*(n-1)≤2 ^ (k+1)*(halfs k (n*3 / 2)-1)
  rw[Nat.pow_succ,Nat.pow_succ,Nat.mul_assoc,Nat.mul_assoc];have h1:3*(n-1)≤2*(n*3 / 2-1):=by omega
  calc 3 ^ k*(3*(n-1))≤3 ^ k*(2*(n*3 / 2-1)):=Nat.mul_le_mul_left _ h1
   _=2*(3 ^ k*(n*3 / 2-1)):=by rw[Nat.mul_left_comm]
   _≤2*(2 ^ k*(halfs k (n*3 / 2)-1)):=Nat.mul_le_mul_left _ ih
   _=_:=by rw[Nat.mul_left_comm]
theorem pow_down {K k B H:Nat} (h:3 ^ k*B≤2 ^ k*H) (hk:K≤k):3 ^ K*B≤2 ^ K*H:=by
 obtain⟨j,rfl⟩:=Nat.le.dest hk;have h1:2 ^ j*(3 ^ K*B)≤2 ^ j*(2 ^ K*H):=by
  calc 2 ^ j*(3 ^ K*B)≤3 ^ j*(3 ^ K*B):=Nat.mul_le_mul_right _ (Nat.pow_le_pow_left (by decide) j)
   _=3 ^ (K+j)*B:=by rw[←Nat.mul_assoc,Nat.pow_add,Nat.mul_comm (3 ^ j)]
   _≤2 ^ (K+j)*H:=h
   _=2 ^ j*(2 ^ K*H):=by rw[←Nat.mul_assoc,Nat.pow_add,Nat.mul_comm (2 ^ j)]
 exact Nat.le_of_mul_le_mul_left h1 (Nat.pow_pos (by decide))
theorem cntB_le (w:Bs):∀l:Bs,cntB w l≤l.length
 | []=>Nat.le_refl _
 | c::l=>by
  have:=cntB_le w l
  rw[List.length_cons]
  show (if Lib.hasPrefix (c::l) w then 1 else 0)+cntB w l≤_
  split<;>omega
theorem cntS_le:∀l:List Sc,cntS l≤rawS l
 | []=>Nat.le_refl _
 | x::l=>by
  have h1:=cntS_le l;have h2:=cntB_le inclW x.text.data.toList;rw[size_lst] at h2;unfold cntS rawS at *;simp only[List.map_cons,List.sum_cons];omega
theorem readS_w {src:List Sc}{attrs:List At}{n:ByteArray}{k b:Nat} (hk:cntS src≤k) (hb:rawS src≤b) (h:halfs k b≤60000):lnW (readS src attrs n).lines≤100000000:=by
 unfold readS;split
 ·exact Nat.zero_le _
 ·rename_i t ht;have hv:Vals (firstA attrs):=fun a ha=>by
   unfold firstA at ha;dsimp only at ha;split at ha
   ·rename_i hc;unfold checkB at hc;simp only[Bool.and_eq_true,List.all_eq_true] at hc;have:=hc.1.2 a ha
    unfold atB validB at this;simp only[Bool.and_eq_true,decide_eq_true_eq] at this;have h2:=this.2.1;rw[size_lst] at h2;exact h2
   ·cases ha
  have h1:=(read_w src 16 [] n t (firstA attrs) rfl ht hv).2;have h0:lnW (firstA attrs).lines=0:=rfl;have e:shutS src []=src:=by unfold shutS hasN;simp
  have hm:mostD src []≤100000000:=by
   unfold mostD;rw[e];have h2:=halfs_le k b;have h3:(342*rawS src)*3 ^ cntS src≤2 ^ cntS src*100000000:=by
    have h4:=pow_down h2 hk;have h5:2 ^ cntS src*(halfs k b-1)≤2 ^ cntS src*59999:=Nat.mul_le_mul_left _ (by omega)
    by_cases hb2:2≤b
    ·have h6:342*rawS src*3 ^ cntS src≤(684*(b-1))*3 ^ cntS src:=Nat.mul_le_mul_right _ (by omega);have h7:(684*(b-1))*3 ^ cntS src=684*(3 ^ cntS src*(b-1)):=by rw[Nat.mul_assoc,Nat.mul_comm (b-1)]
     omega
    ·have h6:=cntS_le src;have h8:cntS src=0∨cntS src=1:=by omega
     rcases h8 with h8|h8<;>rw[h8]<;>omega
   exact Nat.div_le_of_le_mul h3
  omega
end Go.Bd
namespace Go.Proofs.YtkkebmciiiajeaaGreatDoor
open Go.RowKit Go.Bd
def atCells (a:At):List Value:=[.string a.name,.string a.value]
def cdCells (c:Cd):List Value:=[.string c.at'.file,.int .i64 c.at'.no,.string c.at'.text,.bool c.first,.bool c.second,.bool c.other]
def rowAt (l:List At):List Value:=l.flatMap atCells
def rowCd (l:List Cd):List Value:=l.flatMap cdCells
def rowLn (l:List Ln):List Value:=l.flatMap lnCells
def rowTx (l:List ByteArray):List Value:=l.map Value.string
def setFe (l:List ByteArray):List Fe:=l.map fun n=>⟨n,.agg #[],[]⟩
theorem flat_len {α:Type} (f:α→List Value) (k:Nat) (hf:∀a,(f a).length=k):∀l:List α,(l.flatMap f).length=l.length*k
 | []=>by simp
 | a::l=>by rw[List.flatMap_cons,List.length_append,flat_len f k hf l,hf,List.length_cons,Nat.succ_mul,Nat.add_comm]
theorem flat_get {α:Type} (f:α→List Value) (k:Nat) (hf:∀a,(f a).length=k):∀{l:List α}{j:Nat}{a:α}{i:Nat}{u:Value},l[j]? = some a→(f a)[i]? = some u→(l.flatMap f)[j*k+i]? = some u
 | [],j,a,i,u,h,_=>by simp at h
 | b::l,0,a,i,u,h,hu=>by
  cases h
  have hi:=(List.getElem?_eq_some_iff.1 hu).1;rw[List.flatMap_cons,Nat.zero_mul,Nat.zero_add,List.getElem?_append_left hi];exact hu
 | b::l,j+1,a,i,u,h,hu=>by
  rw[List.flatMap_cons,List.getElem?_append_right (by rw[hf,Nat.succ_mul];omega),hf];have e:(j+1)*k+i-k=j*k+i:=by rw[Nat.succ_mul];omega
  rw[e];exact flat_get f k hf (by simpa using h) hu
theorem rowAt_len (l:List At):(rowAt l).length=l.length*2:=flat_len atCells 2 (fun _=>rfl) l
theorem findF_set (l:List ByteArray) (n:ByteArray):(findF (setFe l) n).isSome=hasN l n:=by
 induction l with
 | nil=>rfl
 | cons a l ih =>
  unfold findF setFe hasN at *;rw[List.map_cons]
  by_cases h:a=n
  ·simp[h]
  ·rw[List.find?_cons_of_neg (by simp[h]),ih];simp[h]
theorem set_put (l:List ByteArray) (n:ByteArray):setFe (putN l n)=putF (setFe l) ⟨n,.agg #[],[]⟩:=by
 unfold putN putF setFe delF;rw[List.map_append,List.filter_map];rfl
theorem set_len (l:List ByteArray):(setFe l).length=l.length:=by simp[setFe]
structure Rv where
 av:Value
 ov:Value
 lv:Value
 dv:Value
 fv:Value
 dm:Nat
 am:Nat
 bm:Nat
 sb:List (Nat×Value)
def tAr:TypeId:=84
def tAt:TypeId:=47
def tLn:TypeId:=98
def tSrc:TypeId:=167
def tCd:TypeId:=160
def tSp:TypeId:=157
def tTx:TypeId:=9
def wordV (f:Nat) (b:Bool):Value:=.agg #[.func (.func f) #[] #[],.bool b]
def wordsF:List Fe:=[⟨ofB wIf,wordV 54 true,[]⟩,⟨ofB wElse,wordV 55 true,[]⟩,⟨ofB wEnd,wordV 56 true,[]⟩,
 ⟨ofB wIncl,wordV 57 false,[]⟩,⟨ofB wSet,wordV 58 false,[]⟩,⟨ofB wUnset,wordV 59 false,[]⟩]
abbrev Stk:Type:=List (ByteArray×List Cd)
structure SrcAt (w:World) (κ:Nat→Nat) (j:Nat) (p:Nat×Value) (s:ByteArray×List Cd):Prop where
 hold:Holds w p.1 tSrc #[.string s.1,p.2]
 row:w.ownsRow 0 tCd 6 p.2 s.2.length (rowCd s.2)
 kb:κ p.1=20+2*j
 kr:∀k,p.2.ownBlock=some k→κ k=21+2*j
structure ARd (w:World) (κ:Nat→Nat) (rb wm:Nat) (sv:Value) (v:Rv) (st:Ast) (stk:Stk):Prop where
 hold:Holds w rb tAr #[sv,v.av,.map (some wm),v.ov,.int .i64 (st.count:Int),.map (some v.dm),.map (some v.am),.map (some v.bm),v.lv,v.dv,v.fv]
 attrs:w.ownsRow 0 tAt 2 v.av st.attrs.length (rowAt st.attrs)
 done:FsMap w Tryz.prog tTx v.dm (setFe st.done)
 asked:FsMap w Tryz.prog tTx v.am (setFe st.asked)
 begun:FsMap w Tryz.prog tTx v.bm (setFe st.begun)
 lines:w.ownsRow 0 tLn 3 v.lv st.lines.length (rowLn st.lines)
 diags:w.ownsRow 0 tDg 4 v.dv st.diags.length (rowD st.diags)
 files:w.ownsRow 0 tTx 1 v.fv st.files.length (rowTx st.files)
 opens:w.ownsRow 0 tSp 1 v.ov stk.length (v.sb.map fun p=>.pointer (some ⟨p.1,0,none⟩))
 len:v.sb.length=stk.length
 src:∀(j:Nat) p s,v.sb[j]? = some p→stk[j]? = some s→SrcAt w κ j p s
 words:FsMap w Tryz.prog tTx wm wordsF
 kR:κ rb=1
 kW:κ wm=2
 kD:κ v.dm=3
 kA:κ v.am=4
 kB:κ v.bm=5
 kAt:∀k,v.av.ownBlock=some k→κ k=6
 kO:∀k,v.ov.ownBlock=some k→κ k=7
 kL:∀k,v.lv.ownBlock=some k→κ k=8
 kG:∀k,v.dv.ownBlock=some k→κ k=9
 kF:∀k,v.fv.ownBlock=some k→κ k=10
 lt:∀k,κ k≠0→k<w.heap.size
 three:∀k,κ k≠0→3≤k
 uD:Uniq (setFe st.done)
 uA:Uniq (setFe st.asked)
 uB:Uniq (setFe st.begun)
structure Mv (w w':World) (κ κ':Nat→Nat):Prop where
 chg:Chg w w' (fun k=>κ k≠0)
 same:∀k,k<w.heap.size→κ' k=κ k
section
variable {w w' w'':World} {κ κ' κ'':Nat→Nat} {rb wm:Nat} {sv:Value} {v:Rv} {st:Ast} {stk:Stk}
theorem Mv.refl (w:World) (κ:Nat→Nat):Mv w w κ κ:=⟨Chg.refl _ _,fun _ _=>rfl⟩
theorem Mv.trans (h:Mv w w' κ κ') (k:Mv w' w'' κ' κ''):Mv w w'' κ κ'' :=
 ⟨h.chg.trans k.chg (fun b hb hn=>by rw[h.same b hb] at hn;exact hn),fun b hb=>(k.same b (Nat.lt_of_lt_of_le hb h.chg.size)).trans (h.same b hb)⟩
theorem Mv.below (h:Below w.heap.size w w') (κ:Nat→Nat):Mv w w' κ κ:=⟨Chg.below h _,fun _ _=>rfl⟩
theorem SrcAt.chg {S:Nat→Prop}{j:Nat}{p:Nat×Value}{s:ByteArray×List Cd} (h:SrcAt w κ j p s) (hc:Chg w w' S) (h1:∀k,κ k=20+2*j∨κ k=21+2*j→¬S k) (hk:∀k,k<w.heap.size→κ' k=κ k):SrcAt w' κ' j p s :=
 ⟨hc.holds (h1 _ (.inl h.kb)) h.hold,hc.owns h.row (fun k hk=>h1 k (.inr (h.kr k hk))),(hk _ h.hold.lt).trans h.kb,fun k hb=>(hk k (by
  rcases h.row.2 with ⟨h2,_⟩|⟨g,cap,cur,h2,h3,h4,_⟩
  ·rw[h2] at hb;cases hb
  ·rw[h2] at hb;cases hb;exact (Array.getElem?_eq_some_iff.1 h4).1)).trans (h.kr k hb)⟩
theorem ARd.chg {S:Nat→Prop} (h:ARd w κ rb wm sv v st stk) (hc:Chg w w' S) (hS:∀k,κ k≠0→¬S k):ARd w' κ rb wm sv v st stk:=by
 have hz:∀{k c:Nat},κ k=c+1→¬S k:=fun {k c} e=>hS k (by omega)
 exact⟨hc.holds (hz h.kR) h.hold,hc.owns h.attrs (fun k hk=>hz (h.kAt k hk)),h.done.chg hc (hz h.kD),h.asked.chg hc (hz h.kA),h.begun.chg hc (hz h.kB),
  hc.owns h.lines (fun k hk=>hz (h.kL k hk)),hc.owns h.diags (fun k hk=>hz (h.kG k hk)),hc.owns h.files (fun k hk=>hz (h.kF k hk)),hc.owns h.opens (fun k hk=>hz (h.kO k hk)),h.len,
  fun j p s hp hs=>(h.src j p s hp hs).chg hc (fun k hk=>hS k (by omega)) (fun _ _=>rfl),h.words.chg hc (hz h.kW),h.kR,h.kW,h.kD,h.kA,h.kB,h.kAt,h.kO,h.kL,h.kG,h.kF,
  fun k hk=>Nat.lt_of_lt_of_le (h.lt k hk) hc.size,h.three,h.uD,h.uA,h.uB⟩
theorem ARd.three' (h:ARd w κ rb wm sv v st stk) (old:∀k,k<w.heap.size→κ' k=κ k):∀k,κ' k≠0→3≤k:=fun k hk=>by
 by_cases hl:k<w.heap.size
 ·rw[old k hl] at hk;exact h.three k hk
 ·have h1:=h.hold.lt;have h2:=h.three rb (by rw[h.kR];decide);omega
theorem ARd.below (h:ARd w κ rb wm sv v st stk) (hb:Below w.heap.size w w'):ARd w' κ rb wm sv v st stk:=h.chg (Chg.below hb (fun _=>False)) (fun _ _ h=>h)
def recol (κ:Nat→Nat) (n g c:Nat):Nat→Nat:=fun k=>if k<n then κ k else if k=g then c else 0
theorem recol_old {n g c k:Nat} (h:k<n):recol κ n g c k=κ k:=by unfold recol;rw[if_pos h]
theorem recol_at {n g c:Nat} (h:κ g=c∨n≤g) (hl:κ g=c→g<n):recol κ n g c g=c:=by
 unfold recol
 by_cases h1:g<n
 ·rw[if_pos h1]
  rcases h with h|h
  ·exact h
  ·omega
 ·rw[if_neg h1,if_pos rfl]
structure Rest (w w':World) (κ:Nat→Nat) (c:Nat) (κ':Nat→Nat):Prop where
 chg:Chg w w' (fun k=>κ k=1∨κ k=c)
 old:∀k,k<w.heap.size→κ' k=κ k
 lt:∀k,κ' k≠0→k<w'.heap.size
theorem Rest.mv {c:Nat} (h:Rest w w' κ c κ') (hc:c≠0):Mv w w' κ κ':=⟨h.chg.mono (fun k _ hk=>by omega),h.old⟩
end
section
variable {w w':World} {κ κ':Nat→Nat} {rb wm:Nat} {sv:Value} {v:Rv} {st:Ast} {stk:Stk}
theorem ARd.far {c:Nat} (h:ARd w κ rb wm sv v st stk) (R:Rest w w' κ c κ'){k:Nat} (hk:κ k≠0):κ' k=κ k:=R.old k (h.lt k hk)
theorem ARd.set_attrs (h:ARd w κ rb wm sv v st stk) (R:Rest w w' κ 6 κ'){x:Value}{l:List At} (hh:Holds w' rb tAr #[sv,x,.map (some wm),v.ov,.int .i64 (st.count:Int),.map (some v.dm),.map (some v.am),.map (some v.bm),v.lv,v.dv,v.fv]) (ho:w'.ownsRow 0 tAt 2 x l.length (rowAt l)) (hk:∀k,x.ownBlock=some k→κ' k=6):ARd w' κ' rb wm sv { v with av:=x } { st with attrs:=l } stk :=
 ⟨hh,
  ho,
  h.done.chg R.chg (by have:=h.kD;omega),
  h.asked.chg R.chg (by have:=h.kA;omega),
  h.begun.chg R.chg (by have:=h.kB;omega),
  R.chg.owns h.lines (fun k hk hs=>by have:=h.kL k hk;omega),
  R.chg.owns h.diags (fun k hk hs=>by have:=h.kG k hk;omega),
  R.chg.owns h.files (fun k hk hs=>by have:=h.kF k hk;omega),
  R.chg.owns h.opens (fun k hk hs=>by have:=h.kO k hk;omega),
  h.len,
  fun j p s hp hs=>(h.src j p s hp hs).chg R.chg (fun k hk hs=>by omega) (fun k hk=>R.old k hk),
  h.words.chg R.chg (by have:=h.kW;omega),
  (h.far R (by rw[h.kR];omega)).trans h.kR,
  (h.far R (by rw[h.kW];omega)).trans h.kW,
  (h.far R (by rw[h.kD];omega)).trans h.kD,
  (h.far R (by rw[h.kA];omega)).trans h.kA,
  (h.far R (by rw[h.kB];omega)).trans h.kB,
  hk,
  fun k hk=>(h.far R (by rw[h.kO k hk];omega)).trans (h.kO k hk),
  fun k hk=>(h.far R (by rw[h.kL k hk];omega)).trans (h.kL k hk),
  fun k hk=>(h.far R (by rw[h.kG k hk];omega)).trans (h.kG k hk),
  fun k hk=>(h.far R (by rw[h.kF k hk];omega)).trans (h.kF k hk),
  R.lt,
  h.three' R.old,
  h.uD,
  h.uA,
  h.uB⟩
theorem ARd.set_lines (h:ARd w κ rb wm sv v st stk) (R:Rest w w' κ 8 κ'){x:Value}{l:List Ln} (hh:Holds w' rb tAr #[sv,v.av,.map (some wm),v.ov,.int .i64 (st.count:Int),.map (some v.dm),.map (some v.am),.map (some v.bm),x,v.dv,v.fv]) (ho:w'.ownsRow 0 tLn 3 x l.length (rowLn l)) (hk:∀k,x.ownBlock=some k→κ' k=8):ARd w' κ' rb wm sv { v with lv:=x } { st with lines:=l } stk :=
 ⟨hh,
  R.chg.owns h.attrs (fun k hk hs=>by have:=h.kAt k hk;omega),
  h.done.chg R.chg (by have:=h.kD;omega),
  h.asked.chg R.chg (by have:=h.kA;omega),
  h.begun.chg R.chg (by have:=h.kB;omega),
  ho,
  R.chg.owns h.diags (fun k hk hs=>by have:=h.kG k hk;omega),
  R.chg.owns h.files (fun k hk hs=>by have:=h.kF k hk;omega),
  R.chg.owns h.opens (fun k hk hs=>by have:=h.kO k hk;omega),
  h.len,
  fun j p s hp hs=>(h.src j p s hp hs).chg R.chg (fun k hk hs=>by omega) (fun k hk=>R.old k hk),
  h.words.chg R.chg (by have:=h.kW;omega),
  (h.far R (by rw[h.kR];omega)).trans h.kR,
  (h.far R (by rw[h.kW];omega)).trans h.kW,
  (h.far R (by rw[h.kD];omega)).trans h.kD,
  (h.far R (by rw[h.kA];omega)).trans h.kA,
  (h.far R (by rw[h.kB];omega)).trans h.kB,
  fun k hk=>(h.far R (by rw[h.kAt k hk];omega)).trans (h.kAt k hk),
  fun k hk=>(h.far R (by rw[h.kO k hk];omega)).trans (h.kO k hk),
  hk,
  fun k hk=>(h.far R (by rw[h.kG k hk];omega)).trans (h.kG k hk),
  fun k hk=>(h.far R (by rw[h.kF k hk];omega)).trans (h.kF k hk),
  R.lt,
  h.three' R.old,
  h.uD,
  h.uA,
  h.uB⟩
theorem ARd.set_diags (h:ARd w κ rb wm sv v st stk) (R:Rest w w' κ 9 κ'){x:Value}{l:List Dg} (hh:Holds w' rb tAr #[sv,v.av,.map (some wm),v.ov,.int .i64 (st.count:Int),.map (some v.dm),.map (some v.am),.map (some v.bm),v.lv,x,v.fv]) (ho:w'.ownsRow 0 tDg 4 x l.length (rowD l)) (hk:∀k,x.ownBlock=some k→κ' k=9):ARd w' κ' rb wm sv { v with dv:=x } { st with diags:=l } stk :=
 ⟨hh,
  R.chg.owns h.attrs (fun k hk hs=>by have:=h.kAt k hk;omega),
  h.done.chg R.chg (by have:=h.kD;omega),
  h.asked.chg R.chg (by have:=h.kA;omega),
  h.begun.chg R.chg (by have:=h.kB;omega),
  R.chg.owns h.lines (fun k hk hs=>by have:=h.kL k hk;omega),
  ho,
  R.chg.owns h.files (fun k hk hs=>by have:=h.kF k hk;omega),
  R.chg.owns h.opens (fun k hk hs=>by have:=h.kO k hk;omega),
  h.len,
  fun j p s hp hs=>(h.src j p s hp hs).chg R.chg (fun k hk hs=>by omega) (fun k hk=>R.old k hk),
  h.words.chg R.chg (by have:=h.kW;omega),
  (h.far R (by rw[h.kR];omega)).trans h.kR,
  (h.far R (by rw[h.kW];omega)).trans h.kW,
  (h.far R (by rw[h.kD];omega)).trans h.kD,
  (h.far R (by rw[h.kA];omega)).trans h.kA,
  (h.far R (by rw[h.kB];omega)).trans h.kB,
  fun k hk=>(h.far R (by rw[h.kAt k hk];omega)).trans (h.kAt k hk),
  fun k hk=>(h.far R (by rw[h.kO k hk];omega)).trans (h.kO k hk),
  fun k hk=>(h.far R (by rw[h.kL k hk];omega)).trans (h.kL k hk),
  hk,
  fun k hk=>(h.far R (by rw[h.kF k hk];omega)).trans (h.kF k hk),
  R.lt,
  h.three' R.old,
  h.uD,
  h.uA,
  h.uB⟩
theorem ARd.set_files (h:ARd w κ rb wm sv v st stk) (R:Rest w w' κ 10 κ'){x:Value}{l:List ByteArray} (hh:Holds w' rb tAr #[sv,v.av,.map (some wm),v.ov,.int .i64 (st.count:Int),.map (some v.dm),.map (some v.am),.map (some v.bm),v.lv,v.dv,x]) (ho:w'.ownsRow 0 tTx 1 x l.length (rowTx l)) (hk:∀k,x.ownBlock=some k→κ' k=10):ARd w' κ' rb wm sv { v with fv:=x } { st with files:=l } stk :=
 ⟨hh,
  R.chg.owns h.attrs (fun k hk hs=>by have:=h.kAt k hk;omega),
  h.done.chg R.chg (by have:=h.kD;omega),
  h.asked.chg R.chg (by have:=h.kA;omega),
  h.begun.chg R.chg (by have:=h.kB;omega),
  R.chg.owns h.lines (fun k hk hs=>by have:=h.kL k hk;omega),
  R.chg.owns h.diags (fun k hk hs=>by have:=h.kG k hk;omega),
  ho,
  R.chg.owns h.opens (fun k hk hs=>by have:=h.kO k hk;omega),
  h.len,
  fun j p s hp hs=>(h.src j p s hp hs).chg R.chg (fun k hk hs=>by omega) (fun k hk=>R.old k hk),
  h.words.chg R.chg (by have:=h.kW;omega),
  (h.far R (by rw[h.kR];omega)).trans h.kR,
  (h.far R (by rw[h.kW];omega)).trans h.kW,
  (h.far R (by rw[h.kD];omega)).trans h.kD,
  (h.far R (by rw[h.kA];omega)).trans h.kA,
  (h.far R (by rw[h.kB];omega)).trans h.kB,
  fun k hk=>(h.far R (by rw[h.kAt k hk];omega)).trans (h.kAt k hk),
  fun k hk=>(h.far R (by rw[h.kO k hk];omega)).trans (h.kO k hk),
  fun k hk=>(h.far R (by rw[h.kL k hk];omega)).trans (h.kL k hk),
  fun k hk=>(h.far R (by rw[h.kG k hk];omega)).trans (h.kG k hk),
  hk,
  R.lt,
  h.three' R.old,
  h.uD,
  h.uA,
  h.uB⟩
theorem ARd.set_done (h:ARd w κ rb wm sv v st stk) (R:Rest w w' κ 3 κ'){l:List ByteArray} (hh:Holds w' rb tAr #[sv,v.av,.map (some wm),v.ov,.int .i64 (st.count:Int),.map (some v.dm),.map (some v.am),.map (some v.bm),v.lv,v.dv,v.fv]) (hm:FsMap w' Tryz.prog tTx v.dm (setFe l)) (hu:Uniq (setFe l)):ARd w' κ' rb wm sv v { st with done:=l } stk :=
 ⟨hh,
  R.chg.owns h.attrs (fun k hk hs=>by have:=h.kAt k hk;omega),
  hm,
  h.asked.chg R.chg (by have:=h.kA;omega),
  h.begun.chg R.chg (by have:=h.kB;omega),
  R.chg.owns h.lines (fun k hk hs=>by have:=h.kL k hk;omega),
  R.chg.owns h.diags (fun k hk hs=>by have:=h.kG k hk;omega),
  R.chg.owns h.files (fun k hk hs=>by have:=h.kF k hk;omega),
  R.chg.owns h.opens (fun k hk hs=>by have:=h.kO k hk;omega),
  h.len,
  fun j p s hp hs=>(h.src j p s hp hs).chg R.chg (fun k hk hs=>by omega) (fun k hk=>R.old k hk),
  h.words.chg R.chg (by have:=h.kW;omega),
  (h.far R (by rw[h.kR];omega)).trans h.kR,
  (h.far R (by rw[h.kW];omega)).trans h.kW,
  (h.far R (by rw[h.kD];omega)).trans h.kD,
  (h.far R (by rw[h.kA];omega)).trans h.kA,
  (h.far R (by rw[h.kB];omega)).trans h.kB,
  fun k hk=>(h.far R (by rw[h.kAt k hk];omega)).trans (h.kAt k hk),
  fun k hk=>(h.far R (by rw[h.kO k hk];omega)).trans (h.kO k hk),
  fun k hk=>(h.far R (by rw[h.kL k hk];omega)).trans (h.kL k hk),
  fun k hk=>(h.far R (by rw[h.kG k hk];omega)).trans (h.kG k hk),
  fun k hk=>(h.far R (by rw[h.kF k hk];omega)).trans (h.kF k hk),
  R.lt,
  h.three' R.old,
  hu,
  h.uA,
  h.uB⟩
theorem ARd.set_asked (h:ARd w κ rb wm sv v st stk) (R:Rest w w' κ 4 κ'){l:List ByteArray} (hh:Holds w' rb tAr #[sv,v.av,.map (some wm),v.ov,.int .i64 (st.count:Int),.map (some v.dm),.map (some v.am),.map (some v.bm),v.lv,v.dv,v.fv]) (hm:FsMap w' Tryz.prog tTx v.am (setFe l)) (hu:Uniq (setFe l)):ARd w' κ' rb wm sv v { st with asked:=l } stk :=
 ⟨hh,
  R.chg.owns h.attrs (fun k hk hs=>by have:=h.kAt k hk;omega),
  h.done.chg R.chg (by have:=h.kD;omega),
  hm,
  h.begun.chg R.chg (by have:=h.kB;omega),
  R.chg.owns h.lines (fun k hk hs=>by have:=h.kL k hk;omega),
  R.chg.owns h.diags (fun k hk hs=>by have:=h.kG k hk;omega),
  R.chg.owns h.files (fun k hk hs=>by have:=h.kF k hk;omega),
  R.chg.owns h.opens (fun k hk hs=>by have:=h.kO k hk;omega),
  h.len,
  fun j p s hp hs=>(h.src j p s hp hs).chg R.chg (fun k hk hs=>by omega) (fun k hk=>R.old k hk),
  h.words.chg R.chg (by have:=h.kW;omega),
  (h.far R (by rw[h.kR];omega)).trans h.kR,
  (h.far R (by rw[h.kW];omega)).trans h.kW,
  (h.far R (by rw[h.kD];omega)).trans h.kD,
  (h.far R (by rw[h.kA];omega)).trans h.kA,
  (h.far R (by rw[h.kB];omega)).trans h.kB,
  fun k hk=>(h.far R (by rw[h.kAt k hk];omega)).trans (h.kAt k hk),
  fun k hk=>(h.far R (by rw[h.kO k hk];omega)).trans (h.kO k hk),
  fun k hk=>(h.far R (by rw[h.kL k hk];omega)).trans (h.kL k hk),
  fun k hk=>(h.far R (by rw[h.kG k hk];omega)).trans (h.kG k hk),
  fun k hk=>(h.far R (by rw[h.kF k hk];omega)).trans (h.kF k hk),
  R.lt,
  h.three' R.old,
  h.uD,
  hu,
  h.uB⟩
theorem ARd.set_begun (h:ARd w κ rb wm sv v st stk) (R:Rest w w' κ 5 κ'){l:List ByteArray} (hh:Holds w' rb tAr #[sv,v.av,.map (some wm),v.ov,.int .i64 (st.count:Int),.map (some v.dm),.map (some v.am),.map (some v.bm),v.lv,v.dv,v.fv]) (hm:FsMap w' Tryz.prog tTx v.bm (setFe l)) (hu:Uniq (setFe l)):ARd w' κ' rb wm sv v { st with begun:=l } stk :=
 ⟨hh,
  R.chg.owns h.attrs (fun k hk hs=>by have:=h.kAt k hk;omega),
  h.done.chg R.chg (by have:=h.kD;omega),
  h.asked.chg R.chg (by have:=h.kA;omega),
  hm,
  R.chg.owns h.lines (fun k hk hs=>by have:=h.kL k hk;omega),
  R.chg.owns h.diags (fun k hk hs=>by have:=h.kG k hk;omega),
  R.chg.owns h.files (fun k hk hs=>by have:=h.kF k hk;omega),
  R.chg.owns h.opens (fun k hk hs=>by have:=h.kO k hk;omega),
  h.len,
  fun j p s hp hs=>(h.src j p s hp hs).chg R.chg (fun k hk hs=>by omega) (fun k hk=>R.old k hk),
  h.words.chg R.chg (by have:=h.kW;omega),
  (h.far R (by rw[h.kR];omega)).trans h.kR,
  (h.far R (by rw[h.kW];omega)).trans h.kW,
  (h.far R (by rw[h.kD];omega)).trans h.kD,
  (h.far R (by rw[h.kA];omega)).trans h.kA,
  (h.far R (by rw[h.kB];omega)).trans h.kB,
  fun k hk=>(h.far R (by rw[h.kAt k hk];omega)).trans (h.kAt k hk),
  fun k hk=>(h.far R (by rw[h.kO k hk];omega)).trans (h.kO k hk),
  fun k hk=>(h.far R (by rw[h.kL k hk];omega)).trans (h.kL k hk),
  fun k hk=>(h.far R (by rw[h.kG k hk];omega)).trans (h.kG k hk),
  fun k hk=>(h.far R (by rw[h.kF k hk];omega)).trans (h.kF k hk),
  R.lt,
  h.three' R.old,
  h.uD,
  h.uA,
  hu⟩
theorem ARd.set_count (h:ARd w κ rb wm sv v st stk) (R:Rest w w' κ 1 κ'){n:Nat} (hh:Holds w' rb tAr #[sv,v.av,.map (some wm),v.ov,.int .i64 (n:Int),.map (some v.dm),.map (some v.am),.map (some v.bm),v.lv,v.dv,v.fv]):ARd w' κ' rb wm sv v { st with count:=n } stk :=
 ⟨hh,
  R.chg.owns h.attrs (fun k hk hs=>by have:=h.kAt k hk;omega),
  h.done.chg R.chg (by have:=h.kD;omega),
  h.asked.chg R.chg (by have:=h.kA;omega),
  h.begun.chg R.chg (by have:=h.kB;omega),
  R.chg.owns h.lines (fun k hk hs=>by have:=h.kL k hk;omega),
  R.chg.owns h.diags (fun k hk hs=>by have:=h.kG k hk;omega),
  R.chg.owns h.files (fun k hk hs=>by have:=h.kF k hk;omega),
  R.chg.owns h.opens (fun k hk hs=>by have:=h.kO k hk;omega),
  h.len,
  fun j p s hp hs=>(h.src j p s hp hs).chg R.chg (fun k hk hs=>by omega) (fun k hk=>R.old k hk),
  h.words.chg R.chg (by have:=h.kW;omega),
  (h.far R (by rw[h.kR];omega)).trans h.kR,
  (h.far R (by rw[h.kW];omega)).trans h.kW,
  (h.far R (by rw[h.kD];omega)).trans h.kD,
  (h.far R (by rw[h.kA];omega)).trans h.kA,
  (h.far R (by rw[h.kB];omega)).trans h.kB,
  fun k hk=>(h.far R (by rw[h.kAt k hk];omega)).trans (h.kAt k hk),
  fun k hk=>(h.far R (by rw[h.kO k hk];omega)).trans (h.kO k hk),
  fun k hk=>(h.far R (by rw[h.kL k hk];omega)).trans (h.kL k hk),
  fun k hk=>(h.far R (by rw[h.kG k hk];omega)).trans (h.kG k hk),
  fun k hk=>(h.far R (by rw[h.kF k hk];omega)).trans (h.kF k hk),
  R.lt,
  h.three' R.old,
  h.uD,
  h.uA,
  h.uB⟩
theorem ARd.set_top {pre:Stk}{nm:ByteArray}{cs cs':List Cd}{pb:List (Nat×Value)}{b:Nat}{rv rv':Value} (h:ARd w κ rb wm sv v st (pre++[(nm,cs)])) (hv:v.sb=pb++[(b,rv)]) (R:Chg w w' (fun k=>κ k=20+2*pre.length∨κ k=21+2*pre.length)) (old:∀k,k<w.heap.size→κ' k=κ k) (lt:∀k,κ' k≠0→k<w'.heap.size)
  (hs:SrcAt w' κ' pre.length (b,rv') (nm,cs')):ARd w' κ' rb wm sv { v with sb:=pb++[(b,rv')] } st (pre++[(nm,cs')]):=by
 have far:∀{k:Nat},κ k≠0→κ' k=κ k:=fun {k} hk=>old k (h.lt k hk)
 have hl:pb.length=pre.length:=by have:=h.len;rw[hv] at this;simpa using this
 exact⟨R.holds (by have:=h.kR;omega) h.hold,
  R.owns h.attrs (fun k hk hs=>by have:=h.kAt k hk;omega),
  h.done.chg R (by have:=h.kD;omega),
  h.asked.chg R (by have:=h.kA;omega),
  h.begun.chg R (by have:=h.kB;omega),
  R.owns h.lines (fun k hk hs=>by have:=h.kL k hk;omega),
  R.owns h.diags (fun k hk hs=>by have:=h.kG k hk;omega),
  R.owns h.files (fun k hk hs=>by have:=h.kF k hk;omega),
  by have:=R.owns h.opens (fun k hk hs=>by have:=h.kO k hk;omega);rw[hv] at this;simpa using this,
  by simp[hl],
  fun j p s hp hq=>by
   by_cases hj:j<pre.length
   ·rw[List.getElem?_append_left (by omega)] at hp;rw[List.getElem?_append_left hj] at hq;exact (h.src j p s (by rw[hv,List.getElem?_append_left (by omega)];exact hp) (by rw[List.getElem?_append_left hj];exact hq)).chg R (fun k hk hs=>by omega) old
   ·have hj2:j=pre.length:=by have:=(List.getElem?_eq_some_iff.1 hq).1;simp at this;omega
    subst hj2;rw[List.getElem?_append_right (by omega),hl,Nat.sub_self] at hp;rw[List.getElem?_append_right (Nat.le_refl _),Nat.sub_self] at hq;cases hp;cases hq
    exact hs,
  h.words.chg R (by have:=h.kW;omega),
  (far (by rw[h.kR];omega)).trans h.kR,
  (far (by rw[h.kW];omega)).trans h.kW,
  (far (by rw[h.kD];omega)).trans h.kD,
  (far (by rw[h.kA];omega)).trans h.kA,
  (far (by rw[h.kB];omega)).trans h.kB,
  fun k hk=>(far (by rw[h.kAt k hk];omega)).trans (h.kAt k hk),
  fun k hk=>(far (by rw[h.kO k hk];omega)).trans (h.kO k hk),
  fun k hk=>(far (by rw[h.kL k hk];omega)).trans (h.kL k hk),
  fun k hk=>(far (by rw[h.kG k hk];omega)).trans (h.kG k hk),
  fun k hk=>(far (by rw[h.kF k hk];omega)).trans (h.kF k hk),
  lt,h.three' old,h.uD,h.uA,h.uB⟩
theorem ARd.push (h:ARd w κ rb wm sv v st stk) (R:Rest w w' κ 7 κ'){x:Value}{b:Nat}{nm:ByteArray} (hh:Holds w' rb tAr #[sv,v.av,.map (some wm),x,.int .i64 (st.count:Int),.map (some v.dm),.map (some v.am),.map (some v.bm),v.lv,v.dv,v.fv]) (ho:w'.ownsRow 0 tSp 1 x (stk.length+1) (v.sb.map (fun p=>.pointer (some ⟨p.1,0,none⟩))++[.pointer (some ⟨b,0,none⟩)])) (hk:∀k,x.ownBlock=some k→κ' k=7)
  (hs:SrcAt w' κ' stk.length (b,.slice none 0 0) (nm,[])):ARd w' κ' rb wm sv { v with ov:=x,sb:=v.sb++[(b,.slice none 0 0)] } st (stk++[(nm,[])]) :=
 ⟨hh,R.chg.owns h.attrs (fun k hk hs=>by have:=h.kAt k hk;omega),
  h.done.chg R.chg (by have:=h.kD;omega),
  h.asked.chg R.chg (by have:=h.kA;omega),
  h.begun.chg R.chg (by have:=h.kB;omega),
  R.chg.owns h.lines (fun k hk hs=>by have:=h.kL k hk;omega),
  R.chg.owns h.diags (fun k hk hs=>by have:=h.kG k hk;omega),
  R.chg.owns h.files (fun k hk hs=>by have:=h.kF k hk;omega),
  by simpa using ho,
  by simp[h.len],
  fun j p s hp hq=>by
   have hl:=h.len
   by_cases hj:j<stk.length
   ·rw[List.getElem?_append_left (by omega)] at hp;rw[List.getElem?_append_left hj] at hq;exact (h.src j p s hp hq).chg R.chg (fun k hk hs=>by omega) (fun k hk=>R.old k hk)
   ·have hj2:j=stk.length:=by have:=(List.getElem?_eq_some_iff.1 hq).1;simp at this;omega
    subst hj2;rw[List.getElem?_append_right (by omega),hl,Nat.sub_self] at hp;rw[List.getElem?_append_right (Nat.le_refl _),Nat.sub_self] at hq;cases hp;cases hq
    exact hs,
  h.words.chg R.chg (by have:=h.kW;omega),
  (h.far R (by rw[h.kR];omega)).trans h.kR,
  (h.far R (by rw[h.kW];omega)).trans h.kW,
  (h.far R (by rw[h.kD];omega)).trans h.kD,
  (h.far R (by rw[h.kA];omega)).trans h.kA,
  (h.far R (by rw[h.kB];omega)).trans h.kB,
  fun k hk=>(h.far R (by rw[h.kAt k hk];omega)).trans (h.kAt k hk),
  hk,
  fun k hk=>(h.far R (by rw[h.kL k hk];omega)).trans (h.kL k hk),
  fun k hk=>(h.far R (by rw[h.kG k hk];omega)).trans (h.kG k hk),
  fun k hk=>(h.far R (by rw[h.kF k hk];omega)).trans (h.kF k hk),
  R.lt,h.three' R.old,h.uD,h.uA,h.uB⟩
theorem ARd.pop {pre:Stk}{s:ByteArray×List Cd}{pb:List (Nat×Value)}{p:Nat×Value} (h:ARd w κ rb wm sv v st (pre++[s])) (hv:v.sb=pb++[p]) (R:Rest w w' κ 7 κ'){x:Value} (hh:Holds w' rb tAr #[sv,v.av,.map (some wm),x,.int .i64 (st.count:Int),.map (some v.dm),.map (some v.am),.map (some v.bm),v.lv,v.dv,v.fv]) (ho:w'.ownsRow 0 tSp 1 x pre.length (pb.map (fun p=>.pointer (some ⟨p.1,0,none⟩)))) (hk:∀k,x.ownBlock=some k→κ' k=7):ARd w' κ' rb wm sv { v with ov:=x,sb:=pb } st pre :=
 ⟨hh,R.chg.owns h.attrs (fun k hk hs=>by have:=h.kAt k hk;omega),
  h.done.chg R.chg (by have:=h.kD;omega),
  h.asked.chg R.chg (by have:=h.kA;omega),
  h.begun.chg R.chg (by have:=h.kB;omega),
  R.chg.owns h.lines (fun k hk hs=>by have:=h.kL k hk;omega),
  R.chg.owns h.diags (fun k hk hs=>by have:=h.kG k hk;omega),
  R.chg.owns h.files (fun k hk hs=>by have:=h.kF k hk;omega),
  ho,
  by have:=h.len;rw[hv] at this;simpa using this,
  fun j p s hp hq=>by
   have hl:pb.length=pre.length:=by have:=h.len;rw[hv] at this;simpa using this
   have hj:=(List.getElem?_eq_some_iff.1 hq).1;exact (h.src j p s (by rw[hv,List.getElem?_append_left (by omega)];exact hp) (by rw[List.getElem?_append_left hj];exact hq)).chg R.chg (fun k hk hs=>by omega) (fun k hk=>R.old k hk),
  h.words.chg R.chg (by have:=h.kW;omega),
  (h.far R (by rw[h.kR];omega)).trans h.kR,
  (h.far R (by rw[h.kW];omega)).trans h.kW,
  (h.far R (by rw[h.kD];omega)).trans h.kD,
  (h.far R (by rw[h.kA];omega)).trans h.kA,
  (h.far R (by rw[h.kB];omega)).trans h.kB,
  fun k hk=>(h.far R (by rw[h.kAt k hk];omega)).trans (h.kAt k hk),
  hk,
  fun k hk=>(h.far R (by rw[h.kL k hk];omega)).trans (h.kL k hk),
  fun k hk=>(h.far R (by rw[h.kG k hk];omega)).trans (h.kG k hk),
  fun k hk=>(h.far R (by rw[h.kF k hk];omega)).trans (h.kF k hk),
  R.lt,h.three' R.old,h.uD,h.uA,h.uB⟩
theorem tell_rest {A:Option Addr}{c g cap:Nat}{W1 w2:World}{l:List Dg} (h:ARd W1 κ rb wm sv v st stk) (hv:v.dv=.slice A l.length c) (hc:Chg W1 w2 (fun b=>(Value.slice A l.length c).ownBlock=some b)) (hat:(Value.slice A l.length c).ownBlock=some g∨g=W1.heap.size+1) (hg:g<w2.heap.size) :
  Rest W1 (w2.setCell ⟨rb,9,none⟩ (.slice (some ⟨g,0,none⟩) (l.length+1) cap)) κ 9 (recol κ W1.heap.size g 9):=by
 have hS:=Chg.set w2 ⟨rb,9,none⟩ (.slice (some ⟨g,0,none⟩) (l.length+1) cap);refine⟨(hc.mono (T:=fun k=>κ k=1∨κ k=9) (fun k _ hk=>.inr (h.kG k (by rw[hv];exact hk)))).trans hS (fun k _ hk=>.inl (by rw[show k=rb from hk];exact h.kR)),fun k hk=>recol_old hk,fun k hk=>?_⟩;have hz:(w2.setCell ⟨rb,9,none⟩ (.slice (some ⟨g,0,none⟩) (l.length+1) cap)).heap.size=w2.heap.size:=by simp[World.setCell]
 rw[hz];unfold recol at hk;split at hk
 ·have:=hc.size;omega
 ·split at hk
  ·omega
  ·exact absurd rfl hk
theorem tell_done {A:Option Addr}{c g cap:Nat}{W1 w2:World}{l:List Dg}{d:Dg} (h:ARd W1 κ rb wm sv v st stk) (hv:v.dv=.slice A l.length c) (hl:st.diags=l) (hc:Chg W1 w2 (fun b=>(Value.slice A l.length c).ownBlock=some b)) (ho:w2.ownsRow 0 tDg 4 (.slice (some ⟨g,0,none⟩) (l.length+1) cap) (l.length+1) (rowD l++(dgCells) d)) (hat:(Value.slice A l.length c).ownBlock=some g∨g=W1.heap.size+1)
  (hh:Holds w2 rb tAr #[sv,v.av,.map (some wm),v.ov,.int .i64 (st.count:Int),.map (some v.dm),.map (some v.am),.map (some v.bm),v.lv,v.dv,v.fv]) (hg:g<w2.heap.size) (hgb:g≠rb) :
  ARd (w2.setCell ⟨rb,9,none⟩ (.slice (some ⟨g,0,none⟩) (l.length+1) cap)) (recol κ W1.heap.size g 9) rb wm sv { v with dv:=.slice (some ⟨g,0,none⟩) (l.length+1) cap } { st with diags:=st.diags++[d] } stk:=by
 have R:=tell_rest h hv hc hat hg (cap:=cap);refine h.set_diags R (hh.set 9 _) ?_ (fun k hk=>?_)
 ·rw[hl,List.length_append,List.length_singleton];have e:rowD (l++[d])=rowD l++(dgCells) d:=by rw[rowD_append];simp[rowD]
  rw[e];exact (Chg.set w2 ⟨rb,9,none⟩ (.slice (some ⟨g,0,none⟩) (l.length+1) cap)).owns ho (fun k hk e=>hgb ((show g=k from (by simpa [Value.ownBlock] using hk)).trans e))
 ·have e1:g=k:=by simpa [Value.ownBlock] using hk
  rw[←e1];refine recol_at ?_ (fun hk=>h.lt _ (by omega))
  rcases hat with h1|h1
  ·exact .inl (h.kG g (by rw[hv];exact h1))
  ·exact .inr (by omega)
theorem tell_mv {A:Option Addr}{c g cap:Nat}{W1 w2:World}{l:List Dg} (h:ARd W1 κ rb wm sv v st stk) (hv:v.dv=.slice A l.length c) (hl:st.diags=l) (hc:Chg W1 w2 (fun b=>(Value.slice A l.length c).ownBlock=some b)) (hat:(Value.slice A l.length c).ownBlock=some g∨g=W1.heap.size+1) (hg:g<w2.heap.size) :
  Mv W1 (w2.setCell ⟨rb,9,none⟩ (.slice (some ⟨g,0,none⟩) (l.length+1) cap)) κ (recol κ W1.heap.size g 9):=(tell_rest h hv hc hat hg).mv (by decide)
theorem line_rest {A:Option Addr}{c g cap:Nat}{W1 w2:World}{l:List Ln} (h:ARd W1 κ rb wm sv v st stk) (hv:v.lv=.slice A l.length c) (hc:Chg W1 w2 (fun b=>(Value.slice A l.length c).ownBlock=some b)) (hat:(Value.slice A l.length c).ownBlock=some g∨g=W1.heap.size+1) (hg:g<w2.heap.size) :
  Rest W1 (w2.setCell ⟨rb,8,none⟩ (.slice (some ⟨g,0,none⟩) (l.length+1) cap)) κ 8 (recol κ W1.heap.size g 8):=by
 have hS:=Chg.set w2 ⟨rb,8,none⟩ (.slice (some ⟨g,0,none⟩) (l.length+1) cap);refine⟨(hc.mono (T:=fun k=>κ k=1∨κ k=8) (fun k _ hk=>.inr (h.kL k (by rw[hv];exact hk)))).trans hS (fun k _ hk=>.inl (by rw[show k=rb from hk];exact h.kR)),fun k hk=>recol_old hk,fun k hk=>?_⟩;have hz:(w2.setCell ⟨rb,8,none⟩ (.slice (some ⟨g,0,none⟩) (l.length+1) cap)).heap.size=w2.heap.size:=by simp[World.setCell]
 rw[hz];unfold recol at hk;split at hk
 ·have:=hc.size;omega
 ·split at hk
  ·omega
  ·exact absurd rfl hk
theorem line_done {A:Option Addr}{c g cap:Nat}{W1 w2:World}{l:List Ln}{d:Ln} (h:ARd W1 κ rb wm sv v st stk) (hv:v.lv=.slice A l.length c) (hl:st.lines=l) (hc:Chg W1 w2 (fun b=>(Value.slice A l.length c).ownBlock=some b)) (ho:w2.ownsRow 0 tLn 3 (.slice (some ⟨g,0,none⟩) (l.length+1) cap) (l.length+1) (rowLn l++(lnCells) d)) (hat:(Value.slice A l.length c).ownBlock=some g∨g=W1.heap.size+1)
  (hh:Holds w2 rb tAr #[sv,v.av,.map (some wm),v.ov,.int .i64 (st.count:Int),.map (some v.dm),.map (some v.am),.map (some v.bm),v.lv,v.dv,v.fv]) (hg:g<w2.heap.size) (hgb:g≠rb) :
  ARd (w2.setCell ⟨rb,8,none⟩ (.slice (some ⟨g,0,none⟩) (l.length+1) cap)) (recol κ W1.heap.size g 8) rb wm sv { v with lv:=.slice (some ⟨g,0,none⟩) (l.length+1) cap } { st with lines:=st.lines++[d] } stk:=by
 have R:=line_rest h hv hc hat hg (cap:=cap);refine h.set_lines R (hh.set 8 _) ?_ (fun k hk=>?_)
 ·rw[hl,List.length_append,List.length_singleton];have e:rowLn (l++[d])=rowLn l++(lnCells) d:=by unfold rowLn;rw[List.flatMap_append];simp
  rw[e];exact (Chg.set w2 ⟨rb,8,none⟩ (.slice (some ⟨g,0,none⟩) (l.length+1) cap)).owns ho (fun k hk e=>hgb ((show g=k from (by simpa [Value.ownBlock] using hk)).trans e))
 ·have e1:g=k:=by simpa [Value.ownBlock] using hk
  rw[←e1];refine recol_at ?_ (fun hk=>h.lt _ (by omega))
  rcases hat with h1|h1
  ·exact .inl (h.kL g (by rw[hv];exact h1))
  ·exact .inr (by omega)
theorem line_mv {A:Option Addr}{c g cap:Nat}{W1 w2:World}{l:List Ln} (h:ARd W1 κ rb wm sv v st stk) (hv:v.lv=.slice A l.length c) (hl:st.lines=l) (hc:Chg W1 w2 (fun b=>(Value.slice A l.length c).ownBlock=some b)) (hat:(Value.slice A l.length c).ownBlock=some g∨g=W1.heap.size+1) (hg:g<w2.heap.size) :
  Mv W1 (w2.setCell ⟨rb,8,none⟩ (.slice (some ⟨g,0,none⟩) (l.length+1) cap)) κ (recol κ W1.heap.size g 8):=(line_rest h hv hc hat hg).mv (by decide)
theorem file_rest {A:Option Addr}{c g cap:Nat}{W1 w2:World}{l:List ByteArray} (h:ARd W1 κ rb wm sv v st stk) (hv:v.fv=.slice A l.length c) (hc:Chg W1 w2 (fun b=>(Value.slice A l.length c).ownBlock=some b)) (hat:(Value.slice A l.length c).ownBlock=some g∨g=W1.heap.size+1) (hg:g<w2.heap.size) :
  Rest W1 (w2.setCell ⟨rb,10,none⟩ (.slice (some ⟨g,0,none⟩) (l.length+1) cap)) κ 10 (recol κ W1.heap.size g 10):=by
 have hS:=Chg.set w2 ⟨rb,10,none⟩ (.slice (some ⟨g,0,none⟩) (l.length+1) cap);refine⟨(hc.mono (T:=fun k=>κ k=1∨κ k=10) (fun k _ hk=>.inr (h.kF k (by rw[hv];exact hk)))).trans hS (fun k _ hk=>.inl (by rw[show k=rb from hk];exact h.kR)),fun k hk=>recol_old hk,fun k hk=>?_⟩;have hz:(w2.setCell ⟨rb,10,none⟩ (.slice (some ⟨g,0,none⟩) (l.length+1) cap)).heap.size=w2.heap.size:=by simp[World.setCell]
 rw[hz];unfold recol at hk;split at hk
 ·have:=hc.size;omega
 ·split at hk
  ·omega
  ·exact absurd rfl hk
theorem file_done {A:Option Addr}{c g cap:Nat}{W1 w2:World}{l:List ByteArray}{d:ByteArray} (h:ARd W1 κ rb wm sv v st stk) (hv:v.fv=.slice A l.length c) (hl:st.files=l) (hc:Chg W1 w2 (fun b=>(Value.slice A l.length c).ownBlock=some b)) (ho:w2.ownsRow 0 tTx 1 (.slice (some ⟨g,0,none⟩) (l.length+1) cap) (l.length+1) (rowTx l++(fun x=>[Value.string x]) d)) (hat:(Value.slice A l.length c).ownBlock=some g∨g=W1.heap.size+1)
  (hh:Holds w2 rb tAr #[sv,v.av,.map (some wm),v.ov,.int .i64 (st.count:Int),.map (some v.dm),.map (some v.am),.map (some v.bm),v.lv,v.dv,v.fv]) (hg:g<w2.heap.size) (hgb:g≠rb) :
  ARd (w2.setCell ⟨rb,10,none⟩ (.slice (some ⟨g,0,none⟩) (l.length+1) cap)) (recol κ W1.heap.size g 10) rb wm sv { v with fv:=.slice (some ⟨g,0,none⟩) (l.length+1) cap } { st with files:=st.files++[d] } stk:=by
 have R:=file_rest h hv hc hat hg (cap:=cap);refine h.set_files R (hh.set 10 _) ?_ (fun k hk=>?_)
 ·rw[hl,List.length_append,List.length_singleton];have e:rowTx (l++[d])=rowTx l++(fun x=>[Value.string x]) d:=by unfold rowTx;simp
  rw[e];exact (Chg.set w2 ⟨rb,10,none⟩ (.slice (some ⟨g,0,none⟩) (l.length+1) cap)).owns ho (fun k hk e=>hgb ((show g=k from (by simpa [Value.ownBlock] using hk)).trans e))
 ·have e1:g=k:=by simpa [Value.ownBlock] using hk
  rw[←e1];refine recol_at ?_ (fun hk=>h.lt _ (by omega))
  rcases hat with h1|h1
  ·exact .inl (h.kF g (by rw[hv];exact h1))
  ·exact .inr (by omega)
theorem file_mv {A:Option Addr}{c g cap:Nat}{W1 w2:World}{l:List ByteArray} (h:ARd W1 κ rb wm sv v st stk) (hv:v.fv=.slice A l.length c) (hl:st.files=l) (hc:Chg W1 w2 (fun b=>(Value.slice A l.length c).ownBlock=some b)) (hat:(Value.slice A l.length c).ownBlock=some g∨g=W1.heap.size+1) (hg:g<w2.heap.size) :
  Mv W1 (w2.setCell ⟨rb,10,none⟩ (.slice (some ⟨g,0,none⟩) (l.length+1) cap)) κ (recol κ W1.heap.size g 10):=(file_rest h hv hc hat hg).mv (by decide)
end
theorem own_rowN {w:World}{base sz n:Nat}{e:TypeId}{v:Value}{xs:List Value} (h:w.ownsRow base e sz v n xs) (hn:0<n):∃g cap,v=.slice (some ⟨g,0,none⟩) n cap∧n≤cap∧cap≤maxLen∧g<w.heap.size∧(∀i u,xs[i]? = some u→w.cell? ⟨g,i,none⟩=some u)∧∀i,w.frozen? ⟨g,i,none⟩=false:=by
 obtain⟨h1,h2|⟨g,cap,cur,h2,h3,h4,h5,h6,h7,h8⟩⟩:=h
 ·omega
 ·refine⟨g,cap,h2,h5,h6,(Array.getElem?_eq_some_iff.1 h4).1,fun i u hu=>?_,fun i=>frozen_of_row w g i cur e h4⟩;rw[cell_of_row w g i cur e (0,0) h4];have hi:=(List.getElem?_eq_some_iff.1 hu).1;rw[←h8,List.getElem?_take_of_lt (by rw[←h8] at hi;simp at hi;omega)] at hu;simpa using hu
theorem own_rowL {w:World}{base sz n:Nat}{e:TypeId}{v:Value}{xs:List Value} (h:w.ownsRow base e sz v n xs):∃A cap,v=.slice A n cap∧n≤cap:=by
 obtain⟨h1,⟨h2,rfl⟩|⟨g,cap,cur,h2,h3,h4,h5,_⟩⟩:=h
 ·exact⟨none,0,h2,Nat.le_refl _⟩
 ·exact⟨_,_,h2,h5⟩
theorem Below.ofDrew (w:World) (n:Nat):Below w.heap.size w (w.drewN n):=((Chg.refl w (fun _=>False)).drewN n).toBelow (Nat.le_refl _) (fun _ h=>h.elim)
section
variable {w:World} {κ:Nat→Nat} {rb wm:Nat} {sv:Value} {v:Rv} {st:Ast} {pre:Stk} {nm:ByteArray} {cs:List Cd} {pb:List (Nat×Value)} {b:Nat} {rv:Value}
theorem ARd.pbl (h:ARd w κ rb wm sv v st (pre++[(nm,cs)])) (hv:v.sb=pb++[(b,rv)]):pb.length=pre.length:=by have:=h.len;rw[hv] at this;simpa using this
theorem ARd.last (h:ARd w κ rb wm sv v st (pre++[(nm,cs)])) (hv:v.sb=pb++[(b,rv)]):SrcAt w κ pre.length (b,rv) (nm,cs) :=
 h.src pre.length _ _ (by rw[hv,List.getElem?_append_right (by rw[h.pbl hv];exact Nat.le_refl _),h.pbl hv];simp) (by simp)
theorem ARd.openAt (h:ARd w κ rb wm sv v st (pre++[(nm,cs)])) (hv:v.sb=pb++[(b,rv)]):∃g cap,v.ov=.slice (some ⟨g,0,none⟩) (pre.length+1) cap∧w.cell? ⟨g,pre.length,none⟩=some (.pointer (some ⟨b,0,none⟩))∧pre.length+1≤cap:=by
 have ho:=h.opens;rw[List.length_append,List.length_singleton] at ho;obtain⟨g,cap,e,h1,_,_,h2,_⟩:=own_rowN ho (by omega);exact⟨g,cap,e,h2 pre.length _ (by rw[hv,List.map_append,List.getElem?_append_right (by simp[h.pbl hv])];simp[h.pbl hv]),h1⟩
theorem a_top (h:ARd w κ rb wm sv v st (pre++[(nm,cs)])) (hv:v.sb=pb++[(b,rv)]) (hn:pre.length≤1000) :
  Calls Tryz.prog 95 #[.pointer (some ⟨rb,0,none⟩)] w fun e w'=>e=.returned (.pointer (some ⟨b,0,none⟩))∧Below w.heap.size w w':=by
 obtain⟨g,cap,e,h1,h2⟩:=h.openAt hv;have c3:=h.hold.cell 3;rw[e] at c3;simp at c3;have e1:IntKind.i64.wrap ((pre.length:Int)+1-1)=(pre.length:Int):=by
  rw[show (pre.length:Int)+1-1=pre.length by omega];exact IntWalk.i64_in _ (by omega)
 have e2:((pre.length:Int)+1-1)=(pre.length:Int):=by omega
 have e3:IntKind.i64.wrap (pre.length:Int)=(pre.length:Int):=IntWalk.i64_in _ (by omega);have hi1:pre.length<pre.length+1:=by omega
 have hi2:¬((pre.length:Int)+1≤(pre.length:Int)):=by omega
 have hi3:(pre.length:Int)<(pre.length:Int)+1:=by omega
 clear h hv e h2;generalize pre.length=n at *
 go_enter Tryz.func95,Tryz.ntmps95
 go_wp2
 go_quiet (fail)
 go_wp2
 go_ret
 exact⟨rfl,Below.ofDrew w _⟩
theorem a_last_nil (h:SrcAt w κ pre.length (b,rv) (nm,[])) :
  Calls Tryz.prog 100 #[.pointer (some ⟨b,0,none⟩)] w fun e w'=>e=.returned (.pointer none)∧w=w':=by
 have c1:=h.hold.cell 1;obtain⟨A,cap,e,_⟩:=own_rowL h.row;dsimp only at e;rw[e] at c1;simp at c1;clear h e
 go_enter Tryz.func100,Tryz.ntmps100
 go_wp2
 go_ret
 exact⟨rfl,rfl⟩
theorem a_last_at {c:Cd} (h:SrcAt w κ pre.length (b,rv) (nm,cs++[c])) (hn:cs.length≤100000) :
  Calls Tryz.prog 100 #[.pointer (some ⟨b,0,none⟩)] w fun e w'=>(∃g cap,rv=.slice (some ⟨g,0,none⟩) (cs.length+1) cap∧e=.returned (.pointer (some ⟨g,cs.length*6,none⟩)))∧Below w.heap.size w w':=by
 have c1:=h.hold.cell 1;have hr:=h.row;rw[List.length_append,List.length_singleton] at hr;obtain⟨g,cap,e,h1,_,_,h2,_⟩:=own_rowN hr (by omega);dsimp only at e;have HE:=Lib.hid e;rw[e] at c1;simp at c1;have e1:IntKind.i64.wrap ((cs.length:Int)+1-1)=(cs.length:Int):=by
  rw[show (cs.length:Int)+1-1=cs.length by omega];exact IntWalk.i64_in _ (by omega)
 have e2:((cs.length:Int)+1-1)=(cs.length:Int):=by omega
 have e3:IntKind.i64.wrap (cs.length:Int)=(cs.length:Int):=IntWalk.i64_in _ (by omega);have hi1:cs.length<cs.length+1:=by omega
 have hi2:¬((cs.length:Int)+1≤(cs.length:Int)):=by omega
 have hi3:(cs.length:Int)<(cs.length:Int)+1:=by omega
 clear h hr e h2;generalize cs.length=n at *
 go_enter Tryz.func100,Tryz.ntmps100
 go_wp2
 go_quiet (fail)
 go_wp2
 go_ret
 exact⟨⟨g,cap,HE.out,rfl⟩,Below.ofDrew w _⟩
theorem a_holds (c:Cd) (w:World) :
  Calls Tryz.prog 138 #[.agg (cdCells c).toArray] w fun e w'=>e=.returned (.bool c.holds)∧Below w.heap.size w w':=by
 unfold cdCells Cd.holds
 go_enter Tryz.func138,Tryz.ntmps138
 go_wp2
 all_goals (go_ret;refine⟨by simp_all,(Below.refl _ w).alloc (Nat.le_refl _) _⟩)
theorem a_force_nil (h:SrcAt w κ pre.length (b,rv) (nm,[])) :
  Calls Tryz.prog 96 #[.pointer (some ⟨b,0,none⟩)] w fun e w'=>e=.returned (.bool true)∧Below w.heap.size w w':=by
 have hL:=a_last_nil h;clear h
 go_enter Tryz.func96,Tryz.ntmps96
 go_wp2_with fail
 refine hL.mono ?_;rintro e w' ⟨rfl,rfl⟩;go_wp2
 go_ret
 exact⟨rfl,Below.refl _ _⟩
theorem a_force_at {c:Cd} (h:SrcAt w κ pre.length (b,rv) (nm,cs++[c])) (hn:cs.length≤100000) :
  Calls Tryz.prog 96 #[.pointer (some ⟨b,0,none⟩)] w fun e w'=>e=.returned (.bool c.holds)∧Below w.heap.size w w':=by
 have hL:=a_last_at h hn;have hr:=h.row;rw[List.length_append,List.length_singleton] at hr;obtain⟨g,cap,e,h1,_,_,h2,_⟩:=own_rowN hr (by omega);have hc:∀i u,(cdCells c)[i]? = some u→w.cell? ⟨g,cs.length*6+i,none⟩=some u:=fun i u hu=>h2 _ _ (flat_get cdCells 6 (fun _=>rfl) (j:=cs.length) (by simp) hu)
 dsimp only at e;have HE:=Lib.hid e;have HC:=Lib.hid hc;have hg:g<w.heap.size:=‹g<w.heap.size›;clear h hr e h2 hc
 go_enter Tryz.func96,Tryz.ntmps96
 go_wp2_with fail
 refine hL.mono ?_;rintro e w1 ⟨⟨g',cap',e',rfl⟩,hb1⟩;obtain rfl:g=g':=by have:=HE.out.symm.trans e';simpa [Value.ownBlock] using (congrArg Value.ownBlock this)
 have hc:∀i u,(cdCells c)[i]? = some u→w1.cell? ⟨g,cs.length*6+i,none⟩=some u:=fun i u hu=>(hb1.cell (p:=⟨g,cs.length*6+i,none⟩) hg).trans (HC.out i u hu)
 have c0:=hc 0 _ rfl;have c1:=hc 1 _ rfl;have c2:=hc 2 _ rfl;have c3:=hc 3 _ rfl;have c4:=hc 4 _ rfl;have c5:=hc 5 _ rfl;rw[Nat.add_zero] at c0;clear hc;have hH:=a_holds c;unfold cdCells at hH
 go_wp2_with fail
 refine (hH _).mono ?_;rintro e w' ⟨rfl,hb⟩;go_wp2
 go_ret
 exact⟨rfl,hb1.trans (hb.mono hb1.size)⟩
end
end Go.Proofs.YtkkebmciiiajeaaGreatDoor
