/- part 14 -/
import Derived.Laws.EntriesVeiled
import Derived.RangeFuncNested
import Derived.RangeFuncWrites
import Derived.Laws.AppendOwnNone
import Derived.Deep.AppendLies
import Derived.RangeFuncBound
import Derived.RangeFuncCalls
import Derived.RangeFuncLeaves
import Derived.RangeFuncBox
import Derived.Shelf.Abstract
import Derived.Shelf.RegionOpen
import Derived.OwnWalkIn
import Derived.TacticsInMore
import Derived.LoopNIn
import Derived.LoopIn
import Derived.Test.YtkkebmciiiajeaaGreatDoorK0
import Derived.Test.YtkkebmciiiajeaaGreatDoorK3
import Derived.Test.YtkkebmciiiajeaaGreatDoorK5
import Derived.Test.YtkkebmciiiajeaaGreatDoorK7
import Derived.Test.YtkkebmciiiajeaaGreatDoorK10
import Derived.Test.YtkkebmciiiajeaaGreatDoorK13
set_option linter.unusedSimpArgs false
set_option linter.unusedVariables false
set_option maxHeartbeats 16000000
set_option maxRecDepth 100000
namespace Go.Proofs.YtkkebmciiiajeaaGreatDoor
open Go.RowKit Go.Bd
section
variable {w:World} {κ:Nat→Nat} {rb wm:Nat} {sv:Value} {v:Rv} {st:Ast} {pre:Stk} {nm:ByteArray} {cs:List Cd} {pb:List (Nat×Value)} {b:Nat} {rv:Value}
def LineP (PC:List PanicEntry) (w:World) (κ:Nat→Nat) (rb wm:Nat) (sv:Value) (pre:Stk) (nm:ByteArray) (pb:List (Nat×Value)) (b:Nat) (r:Rs) (e:Ending) (w':World):Prop :=
 if r.1.over=true then e=.panicked PC∧∃κ' v' stk',ARd w' κ' rb wm sv v' r.1 stk'∧Mv w w' κ κ'
 else e=.returned (.tuple #[])∧WordP w κ rb wm sv pre nm pb b r w'
theorem LineP.back {PC:List PanicEntry}{r:Rs}{e:Ending}{w':World} (ho:r.1.over=false) (he:e=.returned (.tuple #[])) (h:WordP w κ rb wm sv pre nm pb b r w'):LineP PC w κ rb wm sv pre nm pb b r e w':=by
 unfold LineP;rw[if_neg (by rw[ho];decide)];exact⟨he,h⟩
theorem WordP.from {W w':World}{r:Rs} (hm:Mv w W κ κ) (h:WordP W κ rb wm sv pre nm pb b r w'):WordP w κ rb wm sv pre nm pb b r w':=by
 obtain⟨κ',v',rv',h1,h2,h3⟩:=h;exact⟨κ',v',rv',h1,h2,hm.trans h3⟩
theorem WordQ.word {w':World}{r:Ast} (hv:v.sb=pb++[(b,rv)]) (h:WordQ w κ rb wm sv v (pre++[(nm,cs)]) r w'):WordP w κ rb wm sv pre nm pb b (r,cs) w':=by
 obtain⟨κ',v',h1,h2,h3⟩:=h;exact⟨κ',v',rv,h1.trans hv,h2,h3⟩
theorem over_begin (l:Ln) (rest:Bs) (st:Ast) (cs:List Cd):(beginM l rest st cs).1.over=st.over:=by
 unfold beginM;split
 ·split
  ·rfl
  ·split
   ·rfl
   ·exact (asks_attrs [_] st).2.2.1
 ·rfl
theorem over_turn (l:Ln) (st:Ast) (cs:List Cd):(turnM l st cs).1.over=st.over:=by
 unfold turnM;split
 ·rfl
 ·split<;>rfl
theorem over_end (l:Ln) (st:Ast) (cs:List Cd):(endM l st cs).1.over=st.over:=by
 unfold endM;split<;>rfl
theorem over_set (l:Ln) (rest:Bs) (st:Ast):(setM l rest st).over=st.over:=by
 unfold setM;dsimp only;split<;>exact (asks_attrs _ st).2.2.1
theorem over_unset (l:Ln) (rest:ByteArray) (st:Ast):(unsetM l rest st).over=st.over:=by
 unfold unsetM;split<;>rfl
theorem line_word {PC:List PanicEntry}{S:Nat→Prop}{inc:ByteArray→ByteArray→Ast→Ast}{src:List Sc} (h:ARd w κ rb wm sv v st (pre++[(nm,cs)])) (hv:v.sb=pb++[(b,rv)]) (hov:st.over=false) (hsc:ScS w S sv src) (hS:∀k,S k→k<w.heap.size∧κ k=0) (hsn:src.length≤1000000000)
  (hn:pre.length≤100) (hc:cs.length≤100000) (hd:st.diags.length≤1000000000) (ha:st.asked.length≤100000000000) (hdn:st.done.length≤1000000000) (hat:st.attrs.length≤1000000000) (hvs:Vals st) (hri:risesB st.attrs=true) {m:Int} (hg:Glob m w) (l:Ln) (hz:l.text.size≤100000) (hx:l.text.data.toList.headD 0=64)
  (hread:∀(W:World) (rest t:ByteArray),rest.size≤100000→pre.length+1<16→ARd W κ rb wm sv v st (pre++[(nm,cs)])→Mv w W κ κ→findS src rest=some t→Calls Tryz.prog 62 #[.pointer (some ⟨rb,0,none⟩),.string rest,.string t] W fun e w'=>ReadP PC W κ rb wm sv v (pre++[(nm,cs)]) (inc rest t st) e w') :
  Calls Tryz.prog 109 #[.pointer (some ⟨rb,0,none⟩),lnV l] w fun e w'=>LineP PC w κ rb wm sv pre nm pb b (lineM inc src (pre.map (·.1)++[nm]) l st cs) e w':=by
 have hL:lineM inc src (pre.map (·.1)++[nm]) l st cs=if (wordB l.text.data.toList).1=wIf then beginM l (wordB l.text.data.toList).2 st cs else if (wordB l.text.data.toList).1=wElse then turnM l st cs else if (wordB l.text.data.toList).1=wEnd then endM l st cs
   else if force cs=false then (st,cs) else if (wordB l.text.data.toList).1=wIncl then (inclM inc src (pre.map (·.1)++[nm]) l (ofB (wordB l.text.data.toList).2) st,cs) else if (wordB l.text.data.toList).1=wSet then (setM l (wordB l.text.data.toList).2 st,cs)
   else if (wordB l.text.data.toList).1=wUnset then (unsetM l (ofB (wordB l.text.data.toList).2) st,cs) else (st.tell l 3 l.text,cs):=by
  unfold lineM;dsimp only;rw[if_pos (by rw[hx];rfl)]
 have HLL:=Lib.hid hL;clear hL;have hCC:∀W,Mv w W κ κ→ARd W κ rb wm sv v st (pre++[(nm,cs)])→∀rs:ByteArray,rs.size≤100000 →
   Calls Tryz.prog 54 #[.pointer (some ⟨rb,0,none⟩),lnV l,.string rs] W (fun e w'=>e=.returned (.tuple #[])∧LineP PC w κ rb wm sv pre nm pb b (beginM l rs.data.toList st cs) e w') ∧
   Calls Tryz.prog 55 #[.pointer (some ⟨rb,0,none⟩),lnV l,.string rs] W (fun e w'=>e=.returned (.tuple #[])∧LineP PC w κ rb wm sv pre nm pb b (turnM l st cs) e w') ∧
   Calls Tryz.prog 56 #[.pointer (some ⟨rb,0,none⟩),lnV l,.string rs] W (fun e w'=>e=.returned (.tuple #[])∧LineP PC w κ rb wm sv pre nm pb b (endM l st cs) e w') ∧
   Calls Tryz.prog 57 #[.pointer (some ⟨rb,0,none⟩),lnV l,.string rs] W (fun e w'=>LineP PC w κ rb wm sv pre nm pb b (inclM inc src (pre.map (·.1)++[nm]) l rs st,cs) e w') ∧
   Calls Tryz.prog 58 #[.pointer (some ⟨rb,0,none⟩),lnV l,.string rs] W (fun e w'=>e=.returned (.tuple #[])∧LineP PC w κ rb wm sv pre nm pb b (setM l rs.data.toList st,cs) e w') ∧
   Calls Tryz.prog 59 #[.pointer (some ⟨rb,0,none⟩),lnV l,.string rs] W (fun e w'=>e=.returned (.tuple #[])∧LineP PC w κ rb wm sv pre nm pb b (unsetM l rs st,cs) e w') ∧
   Calls Tryz.prog 98 #[.pointer (some ⟨rb,0,none⟩),lnV l,.int .i64 3,.string l.text] W (fun e w'=>e=.returned (.tuple #[])∧LineP PC w κ rb wm sv pre nm pb b (st.tell l 3 l.text,cs) e w'):=fun W hm hW rs hrs=>by
  have hgW:Glob m W:=hg.chg hm.chg (fun k hk=>h.three k hk);have hS2:∀k,S k→k<W.heap.size∧κ k=0:=fun k hk=>⟨Nat.lt_of_lt_of_le (hS k hk).1 hm.chg.size,(hS k hk).2⟩
  have hsc2:ScS W S sv src:=TwoS.chg hsc hm.chg (fun k hk e=>e (hS k hk).2);refine⟨?_,?_,?_,?_,?_,?_,?_⟩
  ·refine (a_begin hW hv (by omega) hc hd (by omega) hat hgW l rs hrs).mono ?_;rintro e w' ⟨rfl,h1⟩;exact⟨rfl,LineP.back ((over_begin _ _ _ _).trans hov) rfl (h1.from hm)⟩
  ·refine (a_turn hW hv (by omega) hc hd l rs).mono ?_;rintro e w' ⟨rfl,h1⟩;exact⟨rfl,LineP.back ((over_turn _ _ _).trans hov) rfl (h1.from hm)⟩
  ·refine (a_end hW hv (by omega) hc hd l rs).mono ?_;rintro e w' ⟨rfl,h1⟩;exact⟨rfl,LineP.back ((over_end _ _ _).trans hov) rfl (h1.from hm)⟩
  ·refine (a_include (PC:=PC) (inc:=inc) hW hov hsc2 hS2 hsn hd (by simp;omega) (by simp) hgW l rs hrs (fun W2 t h16 hA hM hf=>(hread W2 rs t hrs (by simpa using h16) hA (hm.trans hM) hf).mono (fun e w' hP=>hP))).mono ?_;intro e w' hP;unfold ReadP at hP;unfold LineP;rw[List.map_append] at hP
   by_cases ho:(inclM inc src (pre.map (·.1)++[nm]) l rs st).over=true
   ·rw[if_pos ho];have hP2:=hP;rw[show List.map (fun x=>x.fst) [(nm,cs)]=[nm] from rfl,if_pos ho] at hP2;obtain⟨he,κ',v',stk',h1,h2⟩:=hP2;exact⟨he,κ',v',stk',h1,hm.trans h2⟩
   ·rw[if_neg ho];have hP2:=hP;rw[show List.map (fun x=>x.fst) [(nm,cs)]=[nm] from rfl,if_neg ho] at hP2;exact⟨hP2.1,(hP2.2.word hv).from hm⟩
  ·refine (a_set hW hvs hd ha (by omega) hat hri l rs hrs).mono ?_;rintro e w' ⟨rfl,h1⟩;exact⟨rfl,LineP.back ((over_set _ _ _).trans hov) rfl ((h1.word hv).from hm)⟩
  ·refine (a_unset hW hd (by omega) hat hri l rs hrs).mono ?_;rintro e w' ⟨rfl,h1⟩;exact⟨rfl,LineP.back ((over_unset _ _ _).trans hov) rfl ((h1.word hv).from hm)⟩
  ·refine (a_tell hW l.file l.text l.no 3 l.text hd).mono ?_;rintro e w' ⟨rfl,κ',dv',h1,h2⟩;exact⟨rfl,LineP.back hov rfl ⟨κ',{ v with dv:=dv' },rv,hv,h1,hm.trans h2⟩⟩
 unfold lnV at hCC;have HCC:=hidH2 hCC hov;clear hCC hov hsc hS hread hri hvs hg;have hB:=(Below.refl w.heap.size w).alloc (Nat.le_refl _) (.cells #[.string l.file,.int .i64 l.no,.string l.text] 156);have h1:=h.below hB;have hm1:=Mv.below hB κ;have hbx:=fun w' hb n hn=>@boxed_cell w l w' hb n hn
 unfold boxed at hbx;unfold lnV;obtain⟨n,hnn⟩:∃n,w.heap.size=n:=⟨_,rfl⟩;obtain⟨W1,hW1⟩:∃W1,w.alloc (.cells #[.string l.file,.int .i64 l.no,.string l.text] 156)=W1:=⟨_,rfl⟩;rw[hW1] at h1 hm1 hbx;have HB:=hidH4 h1 hm1 hbx hnn;have HW:=hidH2 hW1 hnn;obtain⟨d0,d1,d2⟩:=hbx W1 (Below.refl _ _) n hnn;clear h1 hm1 hbx hB h hW1 hnn;have hP:=Tryz.strings_HasPrefix l.text ⟨#[64]⟩ W1;have e64:(⟨#[64]⟩:ByteArray).data.toList=[64]:=rfl;rw[e64,pre_eq 64 (by decide),hx] at hP;have hI:=indexAnyX_any l.text ⟨#[32,9]⟩ W1 (by decide) (by decide) (by decide) (by omega);have e329:(⟨#[32,9]⟩:ByteArray).data.toList=[32,9]:=rfl;rw[e329] at hI;obtain⟨ix,hix⟩:∃ix,Lib.indexAny l.text.data.toList [32,9]=ix:=⟨_,rfl⟩;rw[hix] at hI;have HI:=hidH2 hI hix;have HP:=Lib.hid hP;clear hP e64 hx hI hix e329
 go_enter Tryz.func109,Tryz.ntmps109
 go_wp2_with fail
 (try rw[HW.out.1])
 (try rw[HW.out.2])
 refine HP.out.mono ?_;rintro e w0 ⟨rfl,rfl⟩
 go_wp2_with fail
 refine HI.out.1.mono ?_;rintro e w2 ⟨rfl,hb2⟩;clear d0 d1 d2;obtain⟨d0,d1,d2⟩:=HB.out.2.2.1 w2 hb2 n HB.out.2.2.2;have H2:=Lib.hid hb2;clear hb2
 go_upto_if 46 with fail
 go_cut [5,6] (fun s6 s7 wx=>s6=.string (ofB (wordB l.text.data.toList).1)∧s7=.string (ofB (wordB l.text.data.toList).2)∧Hid (Below w0.heap.size w0 wx))
 case first =>
  by_cases h0:0≤ix
  ·obtain⟨k,rfl⟩:∃k:Nat,ix=k:=⟨ix.toNat,by omega⟩;have hw:=word_at HI.out.2;have hkl:k≤l.text.size:=by
    rcases idx_le l.text.data.toList [32,9] with h|h
    ·rw[HI.out.2,size_lst] at h;omega
    ·have h2:=HI.out.2;rw[h] at h2;have h2:(-1:Int)=k:=h2;omega
   obtain⟨sub,hsub⟩:∃sub,l.text.extract k l.text.size=sub:=⟨_,rfl⟩;have hsl:sub.data.toList=l.text.data.toList.drop k:=by rw[←hsub,ext_lst,List.take_of_length_le (by rw[size_lst];exact Nat.le_refl _)]
   have htr:=fun W=>strTrim_any sub W (by rw[←size_lst,hsl,List.length_drop,size_lst];omega)
   rw[hsl] at htr;unfold strV at htr;have HT:=hidH3 htr hsub hw;clear htr hsub hw hsl
   go_wp2_with fail
   go_region_with (go_at_call 50;rw[HT.out.2.1];refine (HT.out.1 _).mono ?_;rintro e w4 ⟨rfl,hb4⟩;have hb5:Below w0.heap.size w0 w4:=H2.out.trans ((((Below.refl w2.heap.size w2).drew).trans hb4).mono H2.out.size);obtain⟨q0,q1,q2⟩:=HB.out.2.2.1 w4 hb5 n HB.out.2.2.2)
   all_goals (go_wp2_with fail;go_meet;(case rel=>refine⟨by rw[HT.out.2.2,ofB_ext],by rw[HT.out.2.2];rfl,Lib.hid ?_⟩;first|exact H2.out.trans (hb4.mono H2.out.size)|exact (H2.out.trans (hb4.mono H2.out.size)).drew|exact H2.out.drew.trans (hb4.mono H2.out.size)))
  ·have hw:=Lib.hid (word_no (by rw[HI.out.2];exact h0))
   go_wp2_with fail
   go_meet
   case rel =>
    refine⟨?_,?_,Lib.hid H2.out⟩
    ·rw[hw.out,ofB_lst]
    ·rw[hw.out];rfl
 case rest =>
  obtain⟨h6,h7,HW2⟩:=hcut;subst h6;subst h7;obtain⟨wd,hwd⟩:∃wd,(wordB l.text.data.toList).1=wd:=⟨_,rfl⟩;obtain⟨wr,hwr⟩:∃wr,(wordB l.text.data.toList).2=wr:=⟨_,rfl⟩;have hws:=word_size l.text.data.toList;rw[size_lst,hwd,hwr] at hws;have hLL:=HLL.out;rw[hwd,hwr] at hLL;rw[hwd,hwr];have HLL2:=Lib.hid hLL;clear hLL hwd hwr;obtain⟨rs,hrs⟩:∃rs,ofB wr=rs:=⟨_,rfl⟩;rw[hrs];have hrz:rs.size≤100000:=by rw[←hrs,size_ofB];omega
  have hrl:rs.data.toList=wr:=by rw[←hrs,list_ofB]
  have HRS:=hidH3 hrs hrz hrl;clear hrs hrz hrl;have hK:∀W,Below wc.heap.size wc W→ARd W κ rb wm sv v st (pre++[(nm,cs)])∧Mv w W κ κ∧W.cell? ⟨n,0,none⟩=some (.string l.file)∧W.cell? ⟨n,1,none⟩=some (.int .i64 l.no)∧W.cell? ⟨n,2,none⟩=some (.string l.text):=fun W hb=>by
   have hb2:=HW2.out.trans (hb.mono HW2.out.size);exact⟨HB.out.1.below hb2,HB.out.2.1.trans (Mv.below hb2 κ),HB.out.2.2.1 W hb2 n HB.out.2.2.2⟩
  have HK:=Lib.hid hK;have hKc:=hK wc (Below.refl _ _);have c2:=hKc.1.hold.cell 2;simp at c2;have hwl:=word_look hKc.1.words (ofB wd) (by rw[size_ofB];omega);obtain⟨d0,d1,d2⟩:=hKc.2.2;clear hK hKc hws;have HWL:=Lib.hid hwl;clear hwl;obtain⟨bf,hbf⟩:∃bf,force cs=bf:=⟨_,rfl⟩;have HF:=Lib.hid hbf;clear hbf
  by_cases e1:wd=wIf
  ·have hl2:=HLL2.out;rw[if_pos e1] at hl2;have HLX:=Lib.hid hl2;have hwl:=HWL.out;rw[e1] at hwl;unfold wordOf at hwl;rw[words_if] at hwl;unfold wordV at hwl;simp only[Option.isSome_some] at hwl;rw[e1];obtain⟨q0,q1,q2⟩:=(HK.out (wc.alloc (.cells #[.func (.func 54) #[] #[],.bool true] 124)) ((Below.refl _ _).alloc (Nat.le_refl _) _)).2.2;have hC:=(HCC.out.1 _ (HK.out (wc.alloc (.cells #[.func (.func 54) #[] #[],.bool true] 124)) ((Below.refl _ _).alloc (Nat.le_refl _) _)).2.1 (HK.out _ ((Below.refl _ _).alloc (Nat.le_refl _) _)).1 rs HRS.out.2.1).1;rw[HRS.out.2.2] at hC;rw[←HLX.out] at hC;have HC:=Lib.hid hC;clear hl2 hC e1
   go_wp2_with fail
   refine HC.out.mono ?_;rintro e w9 ⟨rfl,hP⟩;have HP9:=Lib.hid hP;clear hP;go_wp2
   go_end0
   exact HP9.out
  by_cases e2:wd=wElse
  ·have hl2:=HLL2.out;rw[if_neg e1] at hl2;rw[if_pos e2] at hl2;have HLX:=Lib.hid hl2;have hwl:=HWL.out;rw[e2] at hwl;unfold wordOf at hwl;rw[words_else] at hwl;unfold wordV at hwl;simp only[Option.isSome_some] at hwl;rw[e2];obtain⟨q0,q1,q2⟩:=(HK.out (wc.alloc (.cells #[.func (.func 55) #[] #[],.bool true] 124)) ((Below.refl _ _).alloc (Nat.le_refl _) _)).2.2;have hC:=(HCC.out.1 _ (HK.out (wc.alloc (.cells #[.func (.func 55) #[] #[],.bool true] 124)) ((Below.refl _ _).alloc (Nat.le_refl _) _)).2.1 (HK.out _ ((Below.refl _ _).alloc (Nat.le_refl _) _)).1 rs HRS.out.2.1).2.1;rw[←HLX.out] at hC;have HC:=Lib.hid hC;clear hl2 hC e1 e2
   go_wp2_with fail
   refine HC.out.mono ?_;rintro e w9 ⟨rfl,hP⟩;have HP9:=Lib.hid hP;clear hP;go_wp2
   go_end0
   exact HP9.out
  by_cases e3:wd=wEnd
  ·have hl2:=HLL2.out;rw[if_neg e1] at hl2;rw[if_neg e2] at hl2;rw[if_pos e3] at hl2;have HLX:=Lib.hid hl2;have hwl:=HWL.out;rw[e3] at hwl;unfold wordOf at hwl;rw[words_end] at hwl;unfold wordV at hwl;simp only[Option.isSome_some] at hwl;rw[e3];obtain⟨q0,q1,q2⟩:=(HK.out (wc.alloc (.cells #[.func (.func 56) #[] #[],.bool true] 124)) ((Below.refl _ _).alloc (Nat.le_refl _) _)).2.2;have hC:=(HCC.out.1 _ (HK.out (wc.alloc (.cells #[.func (.func 56) #[] #[],.bool true] 124)) ((Below.refl _ _).alloc (Nat.le_refl _) _)).2.1 (HK.out _ ((Below.refl _ _).alloc (Nat.le_refl _) _)).1 rs HRS.out.2.1).2.2.1;rw[←HLX.out] at hC;have HC:=Lib.hid hC;clear hl2 hC e1 e2 e3
   go_wp2_with fail
   refine HC.out.mono ?_;rintro e w9 ⟨rfl,hP⟩;have HP9:=Lib.hid hP;clear hP;go_wp2
   go_end0
   exact HP9.out
  by_cases e4:wd=wIncl
  ·have hl2:=HLL2.out;rw[if_neg e1] at hl2;rw[if_neg e2] at hl2;rw[if_neg e3] at hl2;have hwl:=HWL.out;rw[e4] at hwl;unfold wordOf at hwl;rw[words_incl] at hwl;unfold wordV at hwl;simp only[Option.isSome_some] at hwl;rw[e4];have hb8:Below wc.heap.size wc (wc.alloc (.cells #[.func (.func 57) #[] #[],.bool false] 124)):=(Below.refl _ _).alloc (Nat.le_refl _) _;have hT:=a_top (HK.out _ hb8).1 hv (by omega);have hX8:=Holds.new wc 124 #[.func (.func 57) #[] #[],.bool false];have HX8:=hidH3 hX8 hT hb8;clear hX8 hT hb8;cases bf with
   | false =>
    rw[if_pos HF.out] at hl2;have HLX:=Lib.hid hl2;clear hl2
    go_wp2_with fail
    refine HX8.out.2.1.mono ?_;rintro e w3 ⟨rfl,hb3⟩;have hbb3:=HX8.out.2.2.trans (hb3.mono HX8.out.2.2.size);have hX3:=HX8.out.1.below hb3 (by simp);have hfo:=a_force_any ((HK.out w3 hbb3).1.last hv) hc;rw[HF.out] at hfo;have H3:=hidH3 hbb3 hX3 hfo;clear hbb3 hX3 hfo hb3
    go_wp2_with fail
    refine H3.out.2.2.mono ?_;rintro e w4 ⟨rfl,hb4⟩;have hbb4:=H3.out.1.trans (hb4.mono H3.out.1.size);have H4:=Lib.hid (HK.out w4 hbb4);clear hb4 hbb4;go_wp2
    first|refine bodyPost_ret (results_none rfl _ _ _) rfl ?_|go_end0
    rw[HLX.out];exact LineP.back HCC.out.2 rfl ⟨κ,v,rv,hv,H4.out.1,H4.out.2.1⟩
   | true =>
    rw[if_neg (by rw[HF.out];decide)] at hl2;rw[if_pos e4] at hl2;have HLX:=Lib.hid hl2;clear hl2
    go_wp2_with fail
    refine HX8.out.2.1.mono ?_;rintro e w3 ⟨rfl,hb3⟩;have hbb3:=HX8.out.2.2.trans (hb3.mono HX8.out.2.2.size);have hX3:=HX8.out.1.below hb3 (by simp);have hfo:=a_force_any ((HK.out w3 hbb3).1.last hv) hc;rw[HF.out] at hfo;have H3:=hidH3 hbb3 hX3 hfo;clear hbb3 hX3 hfo hb3
    go_wp2_with fail
    refine H3.out.2.2.mono ?_;rintro e w4 ⟨rfl,hb4⟩;have hbb4:=H3.out.1.trans (hb4.mono H3.out.1.size);have hX4:=H3.out.2.1.below hb4 H3.out.2.1.lt;have x0:=hX4.cell 0;simp at x0;obtain⟨q0,q1,q2⟩:=(HK.out w4 hbb4).2.2;have hC:=(HCC.out.1 w4 (HK.out w4 hbb4).2.1 (HK.out w4 hbb4).1 rs HRS.out.2.1).2.2.2.1;rw[←HRS.out.1] at hC;rw[←HLX.out] at hC;rw[HRS.out.1] at hC;have HC:=Lib.hid hC;clear hC hX4 hb4 hbb4 d0 d1 d2
    go_wp2_with fail
    refine HC.out.mono ?_;intro e w9 hP;have hQ:=hP;unfold LineP at hQ
    by_cases ho:(lineM inc src (pre.map (·.1)++[nm]) l st cs).1.over=true
    ·rw[if_pos ho] at hQ;obtain⟨he,_⟩:=hQ;have HP9:=hidH2 hP he;subst he;clear hP ho;go_wp2;exact⟨rfl,HP9.out.1⟩
    ·rw[if_neg ho] at hQ;obtain⟨he,_⟩:=hQ;have HP9:=hidH2 hP he;subst he;clear hP ho;go_wp2
     go_end0
     exact HP9.out.1
  by_cases e5:wd=wSet
  ·have hl2:=HLL2.out;rw[if_neg e1] at hl2;rw[if_neg e2] at hl2;rw[if_neg e3] at hl2;have hwl:=HWL.out;rw[e5] at hwl;unfold wordOf at hwl;rw[words_set] at hwl;unfold wordV at hwl;simp only[Option.isSome_some] at hwl;rw[e5];have hb8:Below wc.heap.size wc (wc.alloc (.cells #[.func (.func 58) #[] #[],.bool false] 124)):=(Below.refl _ _).alloc (Nat.le_refl _) _;have hT:=a_top (HK.out _ hb8).1 hv (by omega);have hX8:=Holds.new wc 124 #[.func (.func 58) #[] #[],.bool false];have HX8:=hidH3 hX8 hT hb8;clear hX8 hT hb8;cases bf with
   | false =>
    rw[if_pos HF.out] at hl2;have HLX:=Lib.hid hl2;clear hl2
    go_wp2_with fail
    refine HX8.out.2.1.mono ?_;rintro e w3 ⟨rfl,hb3⟩;have hbb3:=HX8.out.2.2.trans (hb3.mono HX8.out.2.2.size);have hX3:=HX8.out.1.below hb3 (by simp);have hfo:=a_force_any ((HK.out w3 hbb3).1.last hv) hc;rw[HF.out] at hfo;have H3:=hidH3 hbb3 hX3 hfo;clear hbb3 hX3 hfo hb3
    go_wp2_with fail
    refine H3.out.2.2.mono ?_;rintro e w4 ⟨rfl,hb4⟩;have hbb4:=H3.out.1.trans (hb4.mono H3.out.1.size);have H4:=Lib.hid (HK.out w4 hbb4);clear hb4 hbb4;go_wp2
    first|refine bodyPost_ret (results_none rfl _ _ _) rfl ?_|go_end0
    rw[HLX.out];exact LineP.back HCC.out.2 rfl ⟨κ,v,rv,hv,H4.out.1,H4.out.2.1⟩
   | true =>
    rw[if_neg (by rw[HF.out];decide)] at hl2;rw[if_neg e4] at hl2;rw[if_pos e5] at hl2;have HLX:=Lib.hid hl2;clear hl2
    go_wp2_with fail
    refine HX8.out.2.1.mono ?_;rintro e w3 ⟨rfl,hb3⟩;have hbb3:=HX8.out.2.2.trans (hb3.mono HX8.out.2.2.size);have hX3:=HX8.out.1.below hb3 (by simp);have hfo:=a_force_any ((HK.out w3 hbb3).1.last hv) hc;rw[HF.out] at hfo;have H3:=hidH3 hbb3 hX3 hfo;clear hbb3 hX3 hfo hb3
    go_wp2_with fail
    refine H3.out.2.2.mono ?_;rintro e w4 ⟨rfl,hb4⟩;have hbb4:=H3.out.1.trans (hb4.mono H3.out.1.size);have hX4:=H3.out.2.1.below hb4 H3.out.2.1.lt;have x0:=hX4.cell 0;simp at x0;obtain⟨q0,q1,q2⟩:=(HK.out w4 hbb4).2.2;have hC:=(HCC.out.1 w4 (HK.out w4 hbb4).2.1 (HK.out w4 hbb4).1 rs HRS.out.2.1).2.2.2.2.1;rw[HRS.out.2.2] at hC;rw[←HLX.out] at hC;have HC:=Lib.hid hC;clear hC hX4 hb4 hbb4 d0 d1 d2
    go_wp2_with fail
    refine HC.out.mono ?_;rintro e w9 ⟨rfl,hP⟩;have HP9:=Lib.hid hP;clear hP;go_wp2
    first|refine bodyPost_ret (results_none rfl _ _ _) rfl ?_|go_end0
    exact HP9.out
  by_cases e6:wd=wUnset
  ·have hl2:=HLL2.out;rw[if_neg e1] at hl2;rw[if_neg e2] at hl2;rw[if_neg e3] at hl2;have hwl:=HWL.out;rw[e6] at hwl;unfold wordOf at hwl;rw[words_unset] at hwl;unfold wordV at hwl;simp only[Option.isSome_some] at hwl;rw[e6];have hb8:Below wc.heap.size wc (wc.alloc (.cells #[.func (.func 59) #[] #[],.bool false] 124)):=(Below.refl _ _).alloc (Nat.le_refl _) _;have hT:=a_top (HK.out _ hb8).1 hv (by omega);have hX8:=Holds.new wc 124 #[.func (.func 59) #[] #[],.bool false];have HX8:=hidH3 hX8 hT hb8;clear hX8 hT hb8;cases bf with
   | false =>
    rw[if_pos HF.out] at hl2;have HLX:=Lib.hid hl2;clear hl2
    go_wp2_with fail
    refine HX8.out.2.1.mono ?_;rintro e w3 ⟨rfl,hb3⟩;have hbb3:=HX8.out.2.2.trans (hb3.mono HX8.out.2.2.size);have hX3:=HX8.out.1.below hb3 (by simp);have hfo:=a_force_any ((HK.out w3 hbb3).1.last hv) hc;rw[HF.out] at hfo;have H3:=hidH3 hbb3 hX3 hfo;clear hbb3 hX3 hfo hb3
    go_wp2_with fail
    refine H3.out.2.2.mono ?_;rintro e w4 ⟨rfl,hb4⟩;have hbb4:=H3.out.1.trans (hb4.mono H3.out.1.size);have H4:=Lib.hid (HK.out w4 hbb4);clear hb4 hbb4;go_wp2
    first|refine bodyPost_ret (results_none rfl _ _ _) rfl ?_|go_end0
    rw[HLX.out];exact LineP.back HCC.out.2 rfl ⟨κ,v,rv,hv,H4.out.1,H4.out.2.1⟩
   | true =>
    rw[if_neg (by rw[HF.out];decide)] at hl2;rw[if_neg e4] at hl2;rw[if_neg e5] at hl2;rw[if_pos e6] at hl2;have HLX:=Lib.hid hl2;clear hl2
    go_wp2_with fail
    refine HX8.out.2.1.mono ?_;rintro e w3 ⟨rfl,hb3⟩;have hbb3:=HX8.out.2.2.trans (hb3.mono HX8.out.2.2.size);have hX3:=HX8.out.1.below hb3 (by simp);have hfo:=a_force_any ((HK.out w3 hbb3).1.last hv) hc;rw[HF.out] at hfo;have H3:=hidH3 hbb3 hX3 hfo;clear hbb3 hX3 hfo hb3
    go_wp2_with fail
    refine H3.out.2.2.mono ?_;rintro e w4 ⟨rfl,hb4⟩;have hbb4:=H3.out.1.trans (hb4.mono H3.out.1.size);have hX4:=H3.out.2.1.below hb4 H3.out.2.1.lt;have x0:=hX4.cell 0;simp at x0;obtain⟨q0,q1,q2⟩:=(HK.out w4 hbb4).2.2;have hC:=(HCC.out.1 w4 (HK.out w4 hbb4).2.1 (HK.out w4 hbb4).1 rs HRS.out.2.1).2.2.2.2.2.1;rw[←HRS.out.1] at hC;rw[←HLX.out] at hC;rw[HRS.out.1] at hC;have HC:=Lib.hid hC;clear hC hX4 hb4 hbb4 d0 d1 d2
    go_wp2_with fail
    refine HC.out.mono ?_;rintro e w9 ⟨rfl,hP⟩;have HP9:=Lib.hid hP;clear hP;go_wp2
    first|refine bodyPost_ret (results_none rfl _ _ _) rfl ?_|go_end0
    exact HP9.out
  ·have hl2:=HLL2.out;rw[if_neg e1] at hl2;rw[if_neg e2] at hl2;rw[if_neg e3] at hl2;have hwl:=HWL.out;unfold wordOf at hwl;rw[words_none (fun h=>e1 (by rw[←list_ofB wd,←h,list_ofB])) (fun h=>e2 (by rw[←list_ofB wd,←h,list_ofB])) (fun h=>e3 (by rw[←list_ofB wd,←h,list_ofB])) (fun h=>e4 (by rw[←list_ofB wd,←h,list_ofB])) (fun h=>e5 (by rw[←list_ofB wd,←h,list_ofB])) (fun h=>e6 (by rw[←list_ofB wd,←h,list_ofB]))] at hwl;simp only[Option.isSome_none] at hwl;have hb8:Below wc.heap.size wc (wc.alloc (.cells #[.nilFunc,.bool false] 124)):=(Below.refl _ _).alloc (Nat.le_refl _) _;have hT:=a_top (HK.out _ hb8).1 hv (by omega);have hX8:=Holds.new wc 124 #[.nilFunc,.bool false];have HX8:=hidH3 hX8 hT hb8;clear hX8 hT hb8;cases bf with
   | false =>
    rw[if_pos HF.out] at hl2;have HLX:=Lib.hid hl2;clear hl2
    go_wp2_with fail
    refine HX8.out.2.1.mono ?_;rintro e w3 ⟨rfl,hb3⟩;have hbb3:=HX8.out.2.2.trans (hb3.mono HX8.out.2.2.size);have hX3:=HX8.out.1.below hb3 (by simp);have hfo:=a_force_any ((HK.out w3 hbb3).1.last hv) hc;rw[HF.out] at hfo;have H3:=hidH3 hbb3 hX3 hfo;clear hbb3 hX3 hfo hb3
    go_wp2_with fail
    refine H3.out.2.2.mono ?_;rintro e w4 ⟨rfl,hb4⟩;have hbb4:=H3.out.1.trans (hb4.mono H3.out.1.size);have H4:=Lib.hid (HK.out w4 hbb4);clear hb4 hbb4;go_wp2
    first|refine bodyPost_ret (results_none rfl _ _ _) rfl ?_|go_end0
    rw[HLX.out];exact LineP.back HCC.out.2 rfl ⟨κ,v,rv,hv,H4.out.1,H4.out.2.1⟩
   | true =>
    rw[if_neg (by rw[HF.out];decide)] at hl2;rw[if_neg e4] at hl2;rw[if_neg e5] at hl2;rw[if_neg e6] at hl2;have HLX:=Lib.hid hl2;clear hl2
    go_wp2_with fail
    refine HX8.out.2.1.mono ?_;rintro e w3 ⟨rfl,hb3⟩;have hbb3:=HX8.out.2.2.trans (hb3.mono HX8.out.2.2.size);have hX3:=HX8.out.1.below hb3 (by simp);have hfo:=a_force_any ((HK.out w3 hbb3).1.last hv) hc;rw[HF.out] at hfo;have H3:=hidH3 hbb3 hX3 hfo;clear hbb3 hX3 hfo hb3
    go_wp2_with fail
    refine H3.out.2.2.mono ?_;rintro e w4 ⟨rfl,hb4⟩;have hbb4:=H3.out.1.trans (hb4.mono H3.out.1.size);have hX4:=H3.out.2.1.below hb4 H3.out.2.1.lt;have x0:=hX4.cell 0;simp at x0;obtain⟨q0,q1,q2⟩:=(HK.out w4 hbb4).2.2;have hC:=(HCC.out.1 w4 (HK.out w4 hbb4).2.1 (HK.out w4 hbb4).1 rs HRS.out.2.1).2.2.2.2.2.2;rw[←HLX.out] at hC;have HC:=Lib.hid hC;clear hC hX4 hb4 hbb4 d0 d1 d2
    go_wp2_with fail
    refine HC.out.mono ?_;rintro e w9 ⟨rfl,hP⟩;have HP9:=Lib.hid hP;clear hP;go_wp2
    first|refine bodyPost_ret (results_none rfl _ _ _) rfl ?_|go_end0
    exact HP9.out
end
end Go.Proofs.YtkkebmciiiajeaaGreatDoor
namespace Go.Bd
open Go.RowKit
theorem rises_cons {a:At}:∀{l:List At},risesB l=true→(∀b∈l,a.name.data.toList<b.name.data.toList)→risesB (a::l)=true
 | [],_,_=>rfl
 | x::l,h,k=>by
  show (decide (a.name.data.toList<x.name.data.toList)&&risesB (x::l))=true
  rw[Bool.and_eq_true,decide_eq_true_eq];exact⟨k x (List.mem_cons.2 (.inl rfl)),h⟩
theorem rises_del (n:ByteArray):∀{l:List At},risesB l=true→risesB (delA l n)=true
 | [],_=>rfl
 | a::l,h=>by
  obtain⟨h1,h2⟩:=rises_tail h;have ih:=rises_del n h1;unfold delA at *
  by_cases hn:a.name=n
  ·rw[List.filter_cons_of_neg (by simp[hn])];exact ih
  ·rw[List.filter_cons_of_pos (by simp[hn])];exact rises_cons ih (fun b hb=>h2 b (List.mem_filter.1 hb).1)
theorem rises_ins (a:At):∀{l:List At},risesB l=true→risesB (insA l a)=true
 | [],_=>rfl
 | b::l,h=>by
  obtain⟨h1,h2⟩:=rises_tail h;have ih:=rises_ins a h1;unfold insA;split
  ·rename_i e;refine rises_cons h1 (fun c hc=>?_);rw[e];exact h2 c hc
  ·rename_i hne;split
   ·rename_i hlt;exact rises_cons h (fun c hc=>by
     rcases List.mem_cons.1 hc with rfl|hc
     ·exact hlt
     ·exact lt_tr hlt (h2 c hc))
   ·rename_i hge;refine rises_cons ih (fun c hc=>?_)
    rcases insA_mem hc with rfl|hc
    ·rcases lt_tri b.name.data.toList c.name.data.toList with h3|h3|h3
     ·exact h3
     ·exfalso;refine hne ?_;cases hb:b.name
      cases ha:c.name
      rw[hb,ha] at h3;simp at h3;rw[h3]
     ·exact absurd h3 hge
    ·exact h2 c hc
theorem insA_len (a:At):∀l:List At,(insA l a).length≤l.length+1
 | []=>by simp[insA]
 | b::l=>by
  have:=insA_len a l
  unfold insA;split
  ·simp
  ·split
   ·simp
   ·rw[List.length_cons,List.length_cons];omega
theorem delA_len (l:List At) (n:ByteArray):(delA l n).length≤l.length:=List.length_filter_le _ _
structure Lm (d k:Nat) (s:Ast):Prop where
 cnt:s.count≤16384
 attrs:s.attrs.length+d≤64+s.count
 done:s.done.length+d≤s.count
 asked:s.asked.length+100001*d≤100001*s.count
 lines:s.lines.length+d≤s.count
 files:s.files.length+d≤s.count+1
 begun:s.begun.length+d≤s.count+1
 diags:s.diags.length+k+2*d≤2*s.count+(if s.over then 1 else 0)
 vals:Vals s
 rise:risesB s.attrs=true
theorem Lm.less {d k:Nat}{s:Ast} (h:Lm d k s){k':Nat} (hk:k'≤k):Lm 0 k' s:=by
 obtain⟨h1,h2,h3,h4,h5,h6,h7,h8,h9,h10⟩:=h;exact⟨h1,by omega,by omega,by omega,by omega,by omega,by omega,by omega,h9,h10⟩
theorem Lm.tell {k:Nat}{s:Ast} (h:Lm 1 k s) (l:Ln) (f:Nat) (t:ByteArray):Lm 0 (k+1) (s.tell l f t):=by
 obtain⟨h1,h2,h3,h4,h5,h6,h7,h8,h9,h10⟩:=h;refine⟨h1,?_,?_,?_,?_,?_,?_,?_,h9,h10⟩
 ·show s.attrs.length+0≤64+s.count;omega
 ·show s.done.length+0≤s.count;omega
 ·show s.asked.length+_≤100001*s.count;omega
 ·show s.lines.length+0≤s.count;omega
 ·show s.files.length+0≤s.count+1;omega
 ·show s.begun.length+0≤s.count+1;omega
 ·show (s.diags++[_]).length+(k+1)+2*0≤2*s.count+(if s.over then 1 else 0)
  rw[List.length_append,List.length_singleton];omega
theorem ask_keep (s:Ast) (n:ByteArray):(s.ask n).attrs=s.attrs∧(s.ask n).done=s.done∧(s.ask n).over=s.over∧(s.ask n).lines=s.lines∧(s.ask n).count=s.count∧(s.ask n).files=s.files∧(s.ask n).begun=s.begun∧(s.ask n).diags=s.diags∧(s.ask n).asked.length≤s.asked.length+1:=by
 unfold Ast.ask;split
 ·exact⟨rfl,rfl,rfl,rfl,rfl,rfl,rfl,rfl,Nat.le_succ _⟩
 ·exact⟨rfl,rfl,rfl,rfl,rfl,rfl,rfl,rfl,putN_le _ _⟩
theorem asks_all:∀(l:List ByteArray) (s:Ast),(s.asks l).attrs=s.attrs∧(s.asks l).done=s.done∧(s.asks l).over=s.over∧(s.asks l).lines=s.lines∧(s.asks l).count=s.count∧(s.asks l).files=s.files∧(s.asks l).begun=s.begun∧(s.asks l).diags=s.diags∧(s.asks l).asked.length≤s.asked.length+l.length
 | [],_=>⟨rfl,rfl,rfl,rfl,rfl,rfl,rfl,rfl,Nat.le_refl _⟩
 | n::l,s=>by
  obtain⟨h1,h2,h3,h4,h5,h6,h7,h8,h9⟩:=asks_all l (s.ask n);obtain⟨k1,k2,k3,k4,k5,k6,k7,k8,k9⟩:=ask_keep s n;refine⟨h1.trans k1,h2.trans k2,h3.trans k3,h4.trans k4,h5.trans k5,h6.trans k6,h7.trans k7,h8.trans k8,?_⟩;have e:(s.asks (n::l))=(s.ask n).asks l:=rfl;rw[e,List.length_cons];omega
theorem Lm.asks {k:Nat}{s:Ast} (h:Lm 1 k s) (l:List ByteArray) (hl:l.length≤100000):Lm 0 (k+1) (s.asks l)∧(s.asks l).asked.length+1≤100001*s.count:=by
 obtain⟨h1,h2,h3,h4,h5,h6,h7,h8,h9,h10⟩:=h;obtain⟨k1,k2,k3,k4,k5,k6,k7,k8,k9⟩:=asks_all l s;refine⟨⟨?_,?_,?_,?_,?_,?_,?_,?_,?_,?_⟩,by omega⟩
 ·rw[k5];exact h1
 ·rw[k1,k5];omega
 ·rw[k2,k5];omega
 ·rw[k5];omega
 ·rw[k4,k5];omega
 ·rw[k6,k5];omega
 ·rw[k7,k5];omega
 ·rw[k8,k5,k3];omega
 ·unfold Vals;rw[k1];exact h9
 ·rw[k1];exact h10
theorem wordB_le (s:Bs):(wordB s).2.length≤s.length:=(Go.Proofs.YtkkebmciiiajeaaGreatDoor.word_size s).2
theorem fill_lm {k:Nat}{s:Ast} (h:Lm 1 k s) (t:ByteArray) (ht:t.size≤100000):Lm 0 (k+1) (s.fill t)∧(s.fill t).asked.length+1≤100001*s.count :=
 h.asks _ (by have:=fillN_len h.vals t;omega)
theorem Lm.keep {k:Nat}{s:Ast} (h:Lm 1 k s):Lm 0 (k+1) s:=by
 obtain⟨h1,h2,h3,h4,h5,h6,h7,h8,h9,h10⟩:=h;exact⟨h1,by omega,by omega,by omega,by omega,by omega,by omega,by omega,h9,h10⟩
def IncLm (src:List Sc) (opens:List ByteArray) (inc:ByteArray→ByteArray→Ast→Ast):Prop :=
 ∀n t s k,hasN opens n=false→findS src n=some t→Lm 0 k s→s.over=false→s.files.length≤s.count→s.begun.length≤s.count →
  Lm 0 (if (inc n t s).over then 0 else k) (inc n t s)
theorem line_lm {inc:ByteArray→ByteArray→Ast→Ast}{src:List Sc}{opens:List ByteArray} (hI:IncLm src opens inc) (l:Ln) (hz:l.text.size≤100000){s:Ast}{cs:List Cd}{j:Nat} (ho:s.over=false) (h:Lm 1 (cs.length+j) s) :
  Lm 0 (if (lineM inc src opens l s cs).1.over then 0 else (lineM inc src opens l s cs).2.length+j) (lineM inc src opens l s cs).1:=by
 have ht:∀(f:Nat) (t:ByteArray) (k:Nat),k≤cs.length+j+1→Lm 0 (if (s.tell l f t).over then 0 else k) (s.tell l f t):=fun f t k hk=>by
  have h1:=h.tell l f t;have e:(s.tell l f t).over=false:=ho;rw[e];exact h1.less (by simp;exact hk)
 have hs:∀k,k≤cs.length+j+1→Lm 0 (if s.over then 0 else k) s:=fun k hk=>by
  rw[ho];exact h.keep.less (by simp;exact hk)
 have hlz:l.text.data.toList.length≤100000:=by rw[size_lst];exact hz
 have hw2:=wordB_le l.text.data.toList;unfold lineM;dsimp only;split
 ·split
  ·unfold beginM;split
   ·split
    ·exact ht _ _ _ (by simp;try omega)
    ·split
     ·exact ht _ _ _ (by simp;try omega)
     ·rename_i p _ _;have h1:=(h.asks [p.1] (by simp)).1;have e:s.asks [p.1]=s.ask p.1:=rfl;rw[e] at h1;have e2:=(ask_keep s p.1).2.2.1;dsimp only;rw[e2,ho];exact h1.less (by simp;try omega)
   ·exact hs _ (by simp;try omega)
  split
  ·unfold turnM;split
   ·exact ht _ _ _ (by simp;try omega)
   ·split
    ·exact ht _ _ _ (by simp;try omega)
    ·rename_i c hc _;refine hs _ ?_;have hne:cs≠[]:=fun e=>by rw[e] at hc;cases hc
     have:=List.length_pos_iff.2 hne
     simp;omega
  split
  ·unfold endM;split
   ·exact ht _ _ _ (by simp;try omega)
   ·exact hs _ (by simp;try omega)
  split
  ·exact hs _ (by simp;try omega)
  split
  ·unfold inclM;split
   ·exact ht _ _ _ (by simp;try omega)
   split
   ·exact ht _ _ _ (by simp;try omega)
   rename_i hop;split
   ·exact ht _ _ _ (by simp;try omega)
   split
   ·exact ht _ _ _ (by simp;try omega)
   ·rename_i t hf;exact hI _ t s (cs.length+j) (by simpa using hop) hf (h.less (Nat.le_refl _)) ho (by have:=h.files;omega) (by have:=h.begun;omega)
  split
  ·unfold setM;dsimp only;generalize (wordB l.text.data.toList).2=rr at hw2 ⊢;have hw3:=wordB_le rr;have h1:=fill_lm h (ofB (wordB rr).2) (by rw[size_ofB];omega);obtain⟨k1,k2,k3,k4,k5,k6,k7,k8,k9⟩:=asks_all (fillN s.attrs (ofB (wordB rr).2)) s;have e:s.asks (fillN s.attrs (ofB (wordB rr).2))=s.fill (ofB (wordB rr).2):=rfl;rw[e] at k1 k2 k3 k4 k5 k6 k7 k8 k9;obtain⟨g1,g2,g3,g4,g5,g6,g7,g8,g9,g10⟩:=h;obtain⟨⟨f1,f2,f3,f4,f5,f6,f7,f8,f9,f10⟩,f11⟩:=h1;rw[k3,ho] at f8;split
   ·rename_i hok;rw[if_neg (by dsimp only;rw[k3,ho];decide)];refine⟨f1,?_,?_,f4,f5,f6,f7,?_,fun a ha=>?_,rises_ins _ f10⟩
    ·have:=insA_len ⟨ofB (wordB rr).1,fillT s.attrs (ofB (wordB rr).2)⟩ (s.fill (ofB (wordB rr).2)).attrs
     dsimp only;rw[k5,k1] at *;omega
    ·have:=putN_le (s.fill (ofB (wordB rr).2)).done (ofB (wordB rr).1)
     dsimp only;rw[k5,k2] at *;omega
    ·dsimp only;rw[k3,ho];simp at f8 ⊢;omega
    ·rcases insA_mem ha with rfl|ha
     ·simp only[Bool.and_eq_true] at hok;have:=hok.2
      unfold validB at this;simp only[Bool.and_eq_true,decide_eq_true_eq] at this;have hz:=size_lst;rw[hz] at this;exact this.1
     ·exact f9 a ha
   ·rw[if_neg (by show ¬(s.fill (ofB (wordB rr).2)).over=true;rw[k3,ho];decide)];refine⟨f1,f2,f3,f4,f5,f6,f7,?_,f9,f10⟩
    show ((s.fill (ofB (wordB rr).2)).diags++[_]).length+_+2*0≤2*(s.fill (ofB (wordB rr).2)).count+(if (s.fill (ofB (wordB rr).2)).over then 1 else 0)
    rw[List.length_append,List.length_singleton,k3,ho];simp at f8 ⊢;omega
  split
  ·unfold unsetM;split
   ·obtain⟨g1,g2,g3,g4,g5,g6,g7,g8,g9,g10⟩:=h;rw[ho] at g8;rw[if_neg (by dsimp only;rw[ho];decide)];refine⟨g1,?_,?_,by show s.asked.length+_≤100001*s.count;omega,by show s.lines.length+_≤s.count;omega,by show s.files.length+_≤s.count+1;omega,by show s.begun.length+_≤s.count+1;omega,?_,fun a ha=>g9 a (List.mem_filter.1 ha).1,rises_del _ g10⟩
    ·have:=delA_len s.attrs (ofB (wordB l.text.data.toList).2)
     dsimp only;omega
    ·have:=putN_le s.done (ofB (wordB l.text.data.toList).2)
     dsimp only;omega
    ·show s.diags.length+_+2*0≤2*s.count+(if s.over then 1 else 0)
     rw[ho];simp at g8 ⊢;omega
   ·exact ht _ _ _ (by simp;try omega)
  ·exact ht _ _ _ (by simp;try omega)
 ·split
  ·obtain⟨tx,htx⟩:∃tx,ofB (if Lib.hasPrefix l.text.data.toList [92,64]=true then l.text.data.toList.drop 1 else l.text.data.toList)=tx:=⟨_,rfl⟩;have htz:tx.size≤100000:=by
    rw[←htx,size_ofB];split
    ·rw[List.length_drop];omega
    ·exact hlz
   rw[htx];have h1:=(fill_lm h tx htz).1;obtain⟨k1,k2,k3,k4,k5,k6,k7,k8,k9⟩:=asks_all (fillN s.attrs tx) s;have e:s.asks (fillN s.attrs tx)=s.fill tx:=rfl;rw[e] at k1 k2 k3 k4 k5 k6 k7 k8 k9;generalize s.fill tx=u at *;obtain⟨f1,f2,f3,f4,f5,f6,f7,f8,f9,f10⟩:=h1;have g5:=h.lines;rw[k3,ho] at f8;rw[if_neg (by dsimp only;rw[k3,ho];decide)];refine⟨f1,f2,f3,f4,?_,f6,f7,?_,f9,f10⟩
   ·show (u.lines++[_]).length+0≤u.count
    rw[List.length_append,List.length_singleton,k4,k5];omega
   ·show u.diags.length+_+2*0≤2*u.count+(if u.over then 1 else 0)
    rw[k3,ho];simp at f8 ⊢;omega
  ·exact hs _ (by simp;try omega)
theorem lines_lm {inc:ByteArray→ByteArray→Ast→Ast}{src:List Sc}{opens:List ByteArray} (hI:IncLm src opens inc) (f:ByteArray) :
  ∀(ts:List ByteArray) (i:Nat) (s:Ast) (cs:List Cd) (j:Nat),(∀t∈ts,t.size≤100000)→s.over=false→Lm 0 (cs.length+j) s →
   Lm 0 (if (linesM inc src opens f i ts s cs).1.over then 0 else (linesM inc src opens f i ts s cs).2.length+j) (linesM inc src opens f i ts s cs).1
 | [],i,s,cs,j,_,ho,h=>by
  unfold linesM;dsimp only;rw[ho];exact h
 | t::ts,i,s,cs,j,ht,ho,h=>by
  unfold linesM;obtain⟨g1,g2,g3,g4,g5,g6,g7,g8,g9,g10⟩:=h;rw[ho] at g8;split
  ·dsimp only;rw[if_pos rfl];refine⟨g1,g2,g3,g4,g5,g6,g7,?_,g9,g10⟩
   show (s.diags++[_]).length+0+2*0≤2*s.count+(if true then 1 else 0)
   rw[List.length_append,List.length_singleton];simp at g8 ⊢;omega
  ·rename_i hc;dsimp only;have h1:Lm 1 (cs.length+j) { s with count:=s.count+1 }:=by
    refine⟨by show s.count+1≤16384;omega,?_,?_,?_,?_,?_,?_,?_,g9,g10⟩
    ·show s.attrs.length+1≤64+(s.count+1);omega
    ·show s.done.length+1≤s.count+1;omega
    ·show s.asked.length+_≤100001*(s.count+1);omega
    ·show s.lines.length+1≤s.count+1;omega
    ·show s.files.length+1≤s.count+1+1;omega
    ·show s.begun.length+1≤s.count+1+1;omega
    ·show s.diags.length+(cs.length+j)+2*1≤2*(s.count+1)+(if s.over then 1 else 0)
     rw[ho];simp at g8 ⊢;omega
   have h2:=line_lm hI ⟨f,(i:Int)+1,t⟩ (ht t (List.mem_cons.2 (.inl rfl))) (s:={ s with count:=s.count+1 }) (cs:=cs) (j:=j) ho h1;split
   ·rename_i hov;rw[if_pos hov] at h2
    first|exact h2|(rw[if_pos hov];exact h2)
   ·rename_i hno;have hno2:(lineM inc src opens ⟨f,(i:Int)+1,t⟩ { s with count:=s.count+1 } cs).1.over=false:=by simpa using hno
    rw[hno2] at h2;exact lines_lm hI f ts (i+1) _ _ j (fun x hx=>ht x (List.mem_cons_of_mem _ hx)) hno2 h2
theorem tells_lm:∀(cs:List Cd) (s:Ast) (k:Nat),s.over=false→Lm 0 (cs.length+k) s→Lm 0 k (cs.foldl (fun s c=>s.tell c.at' 4 ⟨#[]⟩) s)∧(cs.foldl (fun s c=>s.tell c.at' 4 ⟨#[]⟩) s).over=false
 | [],s,k,ho,h=>⟨by simpa using h,ho⟩
 | c::cs,s,k,ho,h=>by
  refine tells_lm cs (s.tell c.at' 4 ⟨#[]⟩) k ho ?_;obtain⟨g1,g2,g3,g4,g5,g6,g7,g8,g9,g10⟩:=h;refine⟨g1,g2,g3,g4,g5,g6,g7,?_,g9,g10⟩
  show (s.diags++[_]).length+_+2*0≤2*s.count+(if s.over then 1 else 0)
  rw[List.length_append,List.length_singleton];rw[List.length_cons] at g8;omega
theorem begin_lm {k:Nat}{s:Ast} (h:Lm 0 k s) (hf:s.files.length≤s.count) (hb:s.begun.length≤s.count) (n:ByteArray):Lm 0 k (beginS s n)∧(beginS s n).over=s.over∧(beginS s n).count=s.count:=by
 unfold beginS;split
 ·exact⟨h,rfl,rfl⟩
 ·obtain⟨g1,g2,g3,g4,g5,g6,g7,g8,g9,g10⟩:=h;refine⟨⟨g1,g2,g3,g4,g5,?_,?_,g8,g9,g10⟩,rfl,rfl⟩
  ·show (s.files++[n]).length+0≤s.count+1
   rw[List.length_append,List.length_singleton];omega
  ·have:=putN_le s.begun n
   show (putN s.begun n).length+0≤s.count+1
   omega
theorem raw_mem:∀{l:List ByteArray}{x:ByteArray},x∈l→x.size+1≤rawT l
 | [],x,h=>by cases h
 | y::l,x,h=>by
  have e:rawT (y::l)=y.size+1+rawT l:=by simp[rawT]
  rw[e]
  rcases List.mem_cons.1 h with rfl|h
  ·omega
  ·have:=raw_mem h
   omega
theorem lines_le {t:ByteArray} (h:t.size≤99999):∀x∈linesT t,x.size≤100000:=fun x hx=>by
 have h1:=linesT_raw t;have h2:=raw_mem hx;omega
theorem find_le {src:List Sc}{Z:Nat} (hz:∀s∈src,s.text.size≤Z){n t:ByteArray} (h:findS src n=some t):t.size≤Z:=by
 unfold findS at h;cases he:src.find? (fun s=>decide (s.name=n)) with
 | none=>rw[he] at h;cases h
 | some s =>
  rw[he] at h;cases h
  exact hz s (List.mem_of_find?_eq_some he)
theorem read_lm {src:List Sc} (hz:∀s∈src,s.text.size≤99999):∀(d:Nat) (opens:List ByteArray),IncLm src opens (fun n t s=>readM src d opens n t s)
 | 0,opens,n,t,s,k,hop,hf,h,ho,hfl,hbl=>by
  dsimp only
  show Lm 0 (if (beginS s n).over then 0 else k) (beginS s n)
  obtain⟨h1,h2,_⟩:=begin_lm h hfl hbl n;rw[h2,ho];exact h1
 | d+1,opens,n,t,s,k,hop,hf,h,ho,hfl,hbl=>by
  dsimp only;obtain⟨h1,h2,h3⟩:=begin_lm h hfl hbl n;rw[ho] at h2;have htz:=find_le hz hf;have hl:=lines_lm (read_lm hz d (opens++[n])) n (linesT t) 0 (beginS s n) [] k (lines_le htz) h2 (by simpa using h1);have key:∀X,readM src (d+1) opens n t s=X→Lm 0 (if X.over then 0 else k) X→Lm 0 (if (readM src (d+1) opens n t s).over then 0 else k) (readM src (d+1) opens n t s):=fun X e h=>by subst e;exact h
  by_cases hov:(linesM (fun m u s=>readM src d (opens++[n]) m u s) src (opens++[n]) n 0 (linesT t) (beginS s n) []).1.over=true
  ·refine key _ (by rw[readM_succ,if_pos hov]) ?_;rw[if_pos hov] at hl;rw[if_pos hov];exact hl
  ·refine key _ (by rw[readM_succ,if_neg hov]) ?_;rw[if_neg hov] at hl;obtain⟨e1,e2⟩:=tells_lm _ _ k (by simpa using hov) hl;rw[if_neg (by rw[e2];decide)];exact e1
theorem first_lm (attrs:List At):Lm 0 0 (firstA attrs)∧(firstA attrs).over=false:=by
 have hc:∀l:List At,checkB l=true→l.length≤64∧risesB l=true∧∀a∈l,a.value.size≤1024:=fun l h=>by
  unfold checkB at h;simp only[Bool.and_eq_true,List.all_eq_true,decide_eq_true_eq] at h;refine⟨h.1.1,h.2,fun a ha=>?_⟩;have:=h.1.2 a ha
  unfold atB validB at this;simp only[Bool.and_eq_true,decide_eq_true_eq] at this;have h2:=this.2.1;rw[size_lst] at h2;exact h2
 unfold firstA;refine⟨⟨by simp,?_,by simp,by simp,by simp,by simp,by simp,by simp,?_,?_⟩,rfl⟩
 ·show (if checkB attrs then attrs else []).length+0≤64+0
  split
  ·rename_i h;have:=(hc _ h).1;omega
  ·simp
 ·show ∀a∈(if checkB attrs then attrs else []),a.value.size≤1024
  split
  ·rename_i h;exact (hc _ h).2.2
  ·simp
 ·show risesB (if checkB attrs then attrs else [])=true
  split
  ·rename_i h;exact (hc _ h).2.1
  ·rfl
end Go.Bd
namespace Go.Proofs.YtkkebmciiiajeaaGreatDoor
open Go.RowKit Go.Bd
abbrev Sd:={x:Nat×ByteArray // 0<x.1∧x.1≤1000000000∧x.2.size≤100000}
def encSd (x:Sd):Array Value:=#[.int .i64 (x.1.1:Int),.string x.1.2]
def saidX (k:Nat) (l:ByteArray):List Sd :=
 if h:k+1≤1000000000∧(ofB (trim l.data.toList)).size≤100000 then
  if trim l.data.toList=[]∨(trim l.data.toList).headD 0=35 then [] else [⟨(k+1,ofB (trim l.data.toList)),Nat.succ_pos k,h⟩]
 else []
def saidN (L:List ByteArray):Nat→List Sd
 | 0=>[]
 | k+1=>saidN L k++saidX k (L.getD k ⟨#[]⟩)
theorem saidX_length (k:Nat) (l:ByteArray):(saidX k l).length≤1:=by
 unfold saidX;split
 ·split<;>simp
 ·simp
theorem saidN_length (L:List ByteArray):∀k,(saidN L k).length≤k
 | 0=>Nat.le_refl _
 | k+1=>by
  have h1:=saidN_length L k;have h2:=saidX_length k (L.getD k ⟨#[]⟩);unfold saidN;rw[List.length_append];omega
def OutO (b6 b7 bm g:Nat) (W:World):Prop :=
 g≠b6∧g≠b7∧g≠bm∧(∃o,W.heap[g]? = some o∧o.isCells=true)∧∃v6 v7,W.cell? ⟨b6,0,none⟩=some v6∧W.cell? ⟨b7,0,none⟩=some v7∧v6.ownBlock≠some g∧v7.ownBlock≠some g
def KpO (b6 b7 bm:Nat) (W W':World):Prop:=W.heap.size≤W'.heap.size∧∀g,OutO b6 b7 bm g W→OutO b6 b7 bm g W'∧W'.heap[g]? = W.heap[g]?
theorem KpO.trans {b6 b7 bm:Nat}{A B C:World} (h:KpO b6 b7 bm A B) (k:KpO b6 b7 bm B C):KpO b6 b7 bm A C :=
 ⟨Nat.le_trans h.1 k.1,fun g hg=>⟨(k.2 g (h.2 g hg).1).1,(k.2 g (h.2 g hg).1).2.trans (h.2 g hg).2⟩⟩
theorem KpO.put {b6 b7 bm n:Nat} (h6:b6<n) (h7:b7<n) (W:World) (l:Nat) (o o':Obj) (hl:n≤l) (ho:W.heap[l]? = some o) (hc:o.isCells=false):KpO b6 b7 bm W (W.putObj l o'):=by
 have hs:(W.putObj l o').heap.size=W.heap.size:=by simp[World.putObj]
 refine⟨by omega,fun g ⟨g6,g7,gm,⟨og,hog,hcg⟩,v6,v7,c6,c7,o6,o7⟩=>?_⟩;have hgl:g≠l:=fun e=>by rw[e,ho] at hog;cases hog;rw[hc] at hcg;cases hcg
 have hh:=World.putObj_heap_other (w:=W) (o:=o') hgl;have k6:(W.putObj l o').cell? ⟨b6,0,none⟩=some v6:=(World.cell?_of_block (a:=⟨b6,0,none⟩) (World.putObj_heap_other (w:=W) (o:=o') (by simp;omega))).trans c6;have k7:(W.putObj l o').cell? ⟨b7,0,none⟩=some v7:=(World.cell?_of_block (a:=⟨b7,0,none⟩) (World.putObj_heap_other (w:=W) (o:=o') (by simp;omega))).trans c7;exact⟨⟨g6,g7,gm,⟨og,hh.trans hog,hcg⟩,v6,v7,k6,k7,o6,o7⟩,hh⟩
theorem OutO.below {b6 b7 bm g:Nat}{W W':World} (h:OutO b6 b7 bm g W) (h6:b6<W.heap.size) (h7:b7<W.heap.size) (hb:Below W.heap.size W W'):OutO b6 b7 bm g W':=by
 obtain⟨g6,g7,gm,⟨o,ho,hc⟩,v6,v7,c6,c7,o6,o7⟩:=h;have hlt:=(Array.getElem?_eq_some_iff.1 ho).1;exact⟨g6,g7,gm,⟨o,(hb.block g hlt).trans ho,hc⟩,v6,v7,(hb.cell (p:=⟨b6,0,none⟩) h6).trans c6,(hb.cell (p:=⟨b7,0,none⟩) h7).trans c7,o6,o7⟩
theorem grown_below {w w':World} (h:Below w.heap.size w w'):w.grownBy w' none:=⟨h.os,h.tape,h.output,h.size,fun k hk _=>h.block k hk⟩
theorem KpO.ofBelow {b6 b7 bm:Nat}{W W':World} (h6:b6<W.heap.size) (h7:b7<W.heap.size) (hb:Below W.heap.size W W'):KpO b6 b7 bm W W' :=
 ⟨hb.size,fun g hg=>⟨hg.below h6 h7 hb,by obtain⟨_,_,_,⟨o,ho,_⟩,_⟩:=hg;exact hb.block g (Array.getElem?_eq_some_iff.1 ho).1⟩⟩
theorem raw_len:∀l:List ByteArray,l.length≤rawT l
 | []=>Nat.le_refl _
 | a::l=>by
  have:=raw_len l
  unfold rawT at this ⊢;rw[List.map_cons,List.sum_cons,List.length_cons];omega
theorem saidX_some {k:Nat}{l:ByteArray} (hk:k+1≤1000000000) (hl:l.size≤100000) (h:¬(trim l.data.toList=[]∨(trim l.data.toList).headD 0=35)):∃x:Sd,saidX k l=[x]∧x.1=(k+1,ofB (trim l.data.toList)):=by
 have hz:(ofB (trim l.data.toList)).size≤100000:=by
  have h1:=trim_le l.data.toList;rw[←size_list] at h1;exact Nat.le_trans (Nat.le_of_eq (size_mk _)) (by omega)
 exact⟨⟨(k+1,ofB (trim l.data.toList)),Nat.succ_pos k,hk,hz⟩,by unfold saidX;rw[dif_pos ⟨hk,hz⟩,if_neg h],rfl⟩
theorem saidX_none {k:Nat}{l:ByteArray} (h:trim l.data.toList=[]∨(trim l.data.toList).headD 0=35):saidX k l=[]:=by
 unfold saidX;split
 ·first|rfl|exact if_pos h
 ·rfl
end Go.Proofs.YtkkebmciiiajeaaGreatDoor
namespace Go.Bd
open Go.RowKit
def BlocksAt (w:World) (B:Nat) (v:Value) (bs:List Bl):Prop :=
 ∃(A:Option Addr) (c:Nat) (kvs:List (Value×Value)),v=.slice A bs.length c∧bs.length≤c∧kvs.length=bs.length∧(bs≠[]→∃b off,A=some ⟨b,off,none⟩∧b<B∧∀(j:Nat) x kv,bs[j]? = some x→kvs[j]? = some kv→∀(i:Nat) u,(blCells x kv)[i]? = some u→w.cell? ⟨b,off+j*9+i,none⟩=some u) ∧
  ∀(j:Nat) x kv,bs[j]? = some x→kvs[j]? = some kv→Forest w (· < B) kv.1 x.spans∧RowsF w (· < B) kv.2 x.rows
def DiagsAt (w:World) (B:Nat) (v:Value) (ds:List Dg):Prop :=
 ∃A c,v=.slice A ds.length c∧ds.length≤c∧(ds≠[]→∃b off,A=some ⟨b,off,none⟩∧b<B∧∀(j:Nat) x,ds[j]? = some x→∀(i:Nat) u,(dgCells x)[i]? = some u→w.cell? ⟨b,off+j*4+i,none⟩=some u)
end Go.Bd
namespace Go.Proofs.YtkkebmciiiajeaaGreatDoor
open Go.RowKit Go.Bd
def BlkSm (x:Bl):Prop:=manyL x.spans≤1000000000∧(∀r∈x.rows,(∀c∈r,manyL c≤1000000000)∧r.length≤1000000000)∧x.rows.length≤1000000000
end Go.Proofs.YtkkebmciiiajeaaGreatDoor
namespace Go.Bd
mutual
def dw1:Sp→Nat
 | ⟨k,t,_,_,kids⟩=>(if k=0 then max 1 t.length else 1)+dwL kids
def dwL:List Sp→Nat
 | []=>0
 | x::l=>dw1 x+dwL l
end
mutual
theorem many_dw1:∀x:Sp,many1 x≤dw1 x
 | ⟨k,t,u,v,ks⟩=>by
  have:=many_dwL ks
  simp only[many1,dw1];split<;>omega
theorem many_dwL:∀l:List Sp,manyL l≤dwL l
 | []=>Nat.le_refl _
 | x::l=>by
  have h1:=many_dw1 x;have h2:=many_dwL l;simp only[manyL,dwL];omega
end
theorem dwL_app:∀a b:List Sp,dwL (a++b)=dwL a+dwL b
 | [],b=>by simp[dwL]
 | x::a,b=>by rw[List.cons_append,dwL,dwL,dwL_app a b,Nat.add_assoc]
theorem dw_txt {s:Bs} (h:s≠[]):dw1 (txt s)=s.length:=by
 have:=List.length_pos_iff.2 h
 simp only[txt,dw1,if_true,dwL];omega
def dwR (r:Rw):Nat:=dwL r.sp+r.tx.length
def dwF (f:Fr):Nat:=dwR f.row+f.sign.length
def dwFs (l:List Fr):Nat:=(l.map dwF).sum
theorem dwFs_cons (f:Fr) (l:List Fr):dwFs (f::l)=dwF f+dwFs l:=by simp[dwFs]
theorem dwR_write (r:Rw) (s:Bs):dwR (r.write s)=dwR r+s.length:=by simp[dwR,Rw.write];omega
theorem dwL_flush (r:Rw):dwL r.flush.sp=dwR r:=by
 unfold Rw.flush;split
 ·rename_i h;simp[dwR,h]
 ·rename_i h;simp only[dwL_app,dwL,dw_txt h,dwR];omega
theorem dwR_add (r:Rw) (x:Sp):dwR (r.add x)≤dwR r+dw1 x:=by
 obtain⟨k,t,u,v,ks⟩:=x;unfold Rw.add;split
 ·rename_i h;rw[dwR_write,dw1,if_pos h];simp only;omega
 ·simp only[dwR,dwL_app,dwL,List.length_nil];rw[dwL_flush,dwR];omega
theorem dwR_adds:∀(l:List Sp) (r:Rw),dwR (l.foldl Rw.add r)≤dwR r+dwL l
 | [],r=>by simp[dwL]
 | x::l,r=>by
  have h1:=dwR_adds l (r.add x);have h2:=dwR_add r x;simp only[List.foldl_cons,dwL];omega
theorem dwR_spill (f:Fr) (r:Rw):dwR (spill f r)≤dwR r+dwF f:=by
 have:=dwR_adds f.row.sp (r.write f.sign)
 rw[dwR_write] at this;rw[spill,dwR_write,dwF,show dwR f.row=dwL f.row.sp+f.row.tx.length from rfl];omega
theorem dw_onTop {g:Rw→Rw}{n:Nat} (h:∀r,dwR (g r)≤dwR r+n) (l:List Fr):dwFs (onTop g l)≤dwFs l+n:=by
 cases l with
 | nil=>simp[onTop]
 | cons f r =>
  have:=h f.row
  simp only[onTop,dwFs_cons,dwF];omega
theorem dw_write (st:Pst) (s:Bs):dwFs (st.write s).fs≤dwFs st.fs+s.length:=dw_onTop (g:=(·.write s)) (n:=s.length) (fun r=>by rw[dwR_write];exact Nat.le_refl _) st.fs
theorem dw_drop1 (st:Pst):dwFs st.drop1.fs≤dwFs st.fs:=by
 obtain⟨fs,fa⟩:=st
 match fs with
 | []=>exact Nat.le_refl _
 | [f]=>exact Nat.le_refl _
 | f::g::r =>
  have:=dw_onTop (dwR_spill f) (g::r)
  simp only[Pst.drop1,dwFs_cons] at *;omega
theorem dw_dropN:∀(n:Nat) (st:Pst),dwFs (st.dropN n).fs≤dwFs st.fs
 | 0,_=>Nat.le_refl _
 | n+1,st=>Nat.le_trans (dw_dropN n st.drop1) (dw_drop1 st)
theorem dw_fin (st:Pst) (n:Nat):dwFs (st.fin n).fs≤dwFs st.fs+1:=by
 have h:=dw_dropN (st.fs.length-1-n) st;unfold Pst.fin Pst.drop;generalize st.dropN (st.fs.length-1-n)=sd at h;obtain⟨fs,fa⟩:=sd
 match fs,h with
 | [],h=>simp only[Pst.shut] at *;omega
 | f::r,h =>
  have e:dw1 ⟨f.kind,[],[],[],f.row.flush.sp⟩=1+dwR f.row:=by
   simp only[dw1,dwL_flush];split<;>rfl
  have:=dw_onTop (n:=1+dwR f.row) (g:=(·.add ⟨f.kind,[],[],[],f.row.flush.sp⟩)) (fun q=>by rw[←e];exact dwR_add q _) r
  simp only[Pst.shut,dwFs_cons,dwF] at *;omega
theorem dw_between {st:Pst}{s a b:Bs}{i:Nat}{asf:Bs→Sp ⊕ Nat} (has:asf=codeS∨asf=refS∨asf=termS) (ha:1≤a.length) (hb:1≤b.length) (hi:i+a.length≤s.length) (h:dwFs st.fs≤i):dwFs (st.between s i a b asf).1.fs≤(st.between s i a b asf).2:=by
 unfold Pst.between;split
 ·have:=dw_write st a
  exact Nat.le_trans this (by simp only;omega)
 ·rename_i n hn;obtain⟨h1,h2⟩:=nextAt_some hi hn;split
  ·have:=dw_write st ((s.drop i).take (n+b.length-i))
   rw[List.length_take,List.length_drop] at this;exact Nat.le_trans this (by simp only;omega)
  ·rename_i x hx;obtain⟨_,p2,p3,_⟩:=as_wt has hx;have e:dw1 x=1:=by
    obtain⟨k,t,u,v,ks⟩:=x;simp only at p2 p3;subst p3;simp only[dw1,if_neg p2,dwL]
   have:=dw_onTop (n:=1) (g:=(·.add x)) (fun q=>by rw[←e];exact dwR_add q _) st.fs
   exact Nat.le_trans this (by simp only;omega)
theorem dw_begin (st:Pst) (k i:Nat) (sign:Bs):dwFs (st.begin k i sign).fs=dwFs st.fs+sign.length:=by
 simp only[Pst.begin,dwFs_cons,dwF,dwR,Rw.none,dwL,List.length_nil];omega
theorem dw_mark {st:Pst}{s:Bs}{i k:Nat} (h:dwFs st.fs≤i):dwFs (st.mark s i k).fs≤i+1:=by
 unfold Pst.mark;split
 ·have:=dw_fin st (lastK k st.fs);omega
 ·split
  ·have:=dw_write st [s.getD i 0];simp only[List.length_cons,List.length_nil] at this;omega
  ·split
   ·have:=dw_write st [s.getD i 0];simp only[List.length_cons,List.length_nil] at this;exact Nat.le_trans this (by omega)
   ·rw[dw_begin];simp only[List.length_cons,List.length_nil];omega
theorem dw_step {st:Pst}{s:Bs}{i:Nat} (hi:i<s.length) (h:dwFs st.fs≤i):dwFs (st.step s i).1.fs≤(st.step s i).2:=by
 unfold Pst.step;split
 ·have:=dw_write st [s.getD (i+1) 0];simp only[List.length_cons,List.length_nil] at this;simp only;omega
 split
 ·exact dw_between (.inl rfl) (by simp) (by simp) (by simp;omega) h
 split
 ·rename_i hp;exact dw_between (.inr (.inl rfl)) (by simp) (by simp) (prefix_two hp) h
 split
 ·rename_i hp;exact dw_between (.inr (.inr rfl)) (by simp) (by simp) (prefix_two hp) h
 split
 ·simp only;split
  ·rw[dw_begin];simp only[List.length_cons,List.length_nil];omega
  ·have:=dw_write st [94,91];simp only[List.length_cons,List.length_nil] at this;exact Nat.le_trans this (by omega)
 split
 ·have:=dw_fin st (lastK 6 st.fs);simp only;omega
 split
 ·exact dw_mark h
 split
 ·exact dw_mark h
 ·have:=dw_write st [s.getD i 0];simp only[List.length_cons,List.length_nil] at this;simp only;omega
theorem dw_run {s:Bs}:∀(n i:Nat) (st:Pst),Inv st i→dwFs st.fs≤i→i≤s.length→dwFs (runP s n i st).fs≤s.length
 | 0,i,st,_,h,hi=>Nat.le_trans h hi
 | n+1,i,st,hI,h,hi=>by
  rw[runP];split
  ·rename_i hlt;obtain⟨h3,h4,h5⟩:=hI.step hlt;exact dw_run n _ _ h3 (dw_step hlt h) h5
  ·exact Nat.le_trans h hi
theorem many_spans (s:Bs):manyL (spansOf s)≤s.length:=by
 have h:=dw_run (s:=s) s.length 0 Pst.first Inv.first (by decide) (Nat.zero_le _);have h2:=dw_dropN ((runP s s.length 0 Pst.first).fs.length-1-0) (runP s s.length 0 Pst.first);obtain⟨f,hf⟩:=endP_one s;have h3:dwFs (endP s).fs≤s.length:=Nat.le_trans h2 h;rw[hf,dwFs_cons] at h3;unfold spansOf;rw[hf];simp only;have h4:=many_dwL f.row.flush.sp;rw[dwL_flush] at h4;unfold dwF at h3;omega
end Go.Bd
namespace Go.Bd
open Go.RowKit
theorem rowBl_get:∀{l:List Bl}{kvs:List (Value×Value)}{j:Nat}{x:Bl}{kv:Value×Value}{i:Nat}{u:Value},l[j]? = some x→kvs[j]? = some kv→(blCells x kv)[i]? = some u→(rowBl l kvs)[j*9+i]? = some u
 | [],_,j,x,kv,i,u,h,_,_=>by simp at h
 | y::l,[],j,x,kv,i,u,_,h,_=>by simp at h
 | y::l,ku::kvs,0,x,kv,i,u,h,h2,hu=>by
  simp only[List.getElem?_cons_zero,Option.some.injEq] at h h2;subst h h2;have hi:=(List.getElem?_eq_some_iff.1 hu).1;rw[rowBl,Nat.zero_mul,Nat.zero_add,List.getElem?_append_left hi];exact hu
 | y::l,ku::kvs,j+1,x,kv,i,u,h,h2,hu=>by
  simp only[List.getElem?_cons_succ] at h h2;have ih:=rowBl_get (l:=l) (kvs:=kvs) h h2 hu;have e:(blCells y ku).length=9:=rfl;rw[rowBl,List.getElem?_append_right (by rw[e];omega),e,show (j+1)*9+i-9=j*9+i by omega];exact ih
theorem rowD_get:∀{l:List Dg}{j:Nat}{x:Dg}{i:Nat}{u:Value},l[j]? = some x→(dgCells x)[i]? = some u→(rowD l)[j*4+i]? = some u
 | [],j,x,i,u,h,_=>by simp at h
 | y::l,0,x,i,u,h,hu=>by
  simp only[List.getElem?_cons_zero,Option.some.injEq] at h;subst h;have hi:=(List.getElem?_eq_some_iff.1 hu).1;rw[rowD,Nat.zero_mul,Nat.zero_add,List.getElem?_append_left hi];exact hu
 | y::l,j+1,x,i,u,h,hu=>by
  simp only[List.getElem?_cons_succ] at h;have ih:=rowD_get (l:=l) h hu;have e:(dgCells y).length=4:=rfl;rw[rowD,List.getElem?_append_right (by rw[e];omega),e,show (j+1)*4+i-4=j*4+i by omega];exact ih
section
variable {w w':World} {O F:Nat→Prop} {rb:Nat} {lv:Value} {pos:Nat} {bv:Value} {bs:List Bl} {dv:Value} {ds:List Dg}
theorem Rdr.bform (h:Rdr w O F rb lv pos bv bs dv ds):∃A c,bv=.slice A bs.length c:=by
 obtain⟨kvs,_,h2,_⟩:=h.bl
 rcases h2.2 with ⟨h1,h2⟩|⟨g,cap,cur,h1,_⟩
 ·exact⟨none,0,by rw[h1,h2]⟩
 ·exact⟨_,_,h1⟩
theorem Rdr.dform (h:Rdr w O F rb lv pos bv bs dv ds):∃A c,dv=.slice A ds.length c:=by
 rcases h.dg.2 with ⟨h1,h2⟩|⟨g,cap,cur,h1,_⟩
 ·exact⟨none,0,by rw[h1,h2]⟩
 ·exact⟨_,_,h1⟩
theorem Rdr.blk_at {A:Option Addr}{n c:Nat} (h:Rdr w O F rb lv pos (.slice A n c) bs dv ds){j:Nat}{x:Bl} (hx:bs[j]? = some x):∃g sA sc rA rc,A=some ⟨g,0,none⟩∧O g∧Forest w F (.slice sA x.spans.length sc) x.spans∧RowsF w F (.slice rA x.rows.length rc) x.rows ∧
  w.cell? ⟨g,j*9,none⟩=some (.int .u8 (x.kind:Int))∧w.cell? ⟨g,j*9+1,none⟩=some (.int .i64 (x.level:Int))∧w.cell? ⟨g,j*9+2,none⟩=some (.bool x.ordered)∧w.cell? ⟨g,j*9+3,none⟩=some (.string x.label)∧w.cell? ⟨g,j*9+4,none⟩=some (.string x.text) ∧
  w.cell? ⟨g,j*9+5,none⟩=some (.slice sA x.spans.length sc)∧w.cell? ⟨g,j*9+6,none⟩=some (.slice rA x.rows.length rc)∧w.cell? ⟨g,j*9+7,none⟩=some (.string x.file)∧w.cell? ⟨g,j*9+8,none⟩=some (.int .i64 x.line):=by
 obtain⟨kvs,h1,h2,h3⟩:=h.bl;have hj:=(List.getElem?_eq_some_iff.1 hx).1;obtain⟨kv,hkv⟩:∃kv,kvs[j]? = some kv:=⟨_,List.getElem?_eq_getElem (by omega)⟩;obtain⟨hf,hr⟩:=h3 j x kv hx hkv;obtain⟨k1,k2⟩:=kv;obtain⟨sA,sc,rfl,_⟩:=hf.form;obtain⟨rA,rc,rfl,_⟩:=hr.len
 rcases h2.2 with ⟨e1,e2⟩|⟨g,cap,cur,e1,_⟩
 ·omega
 injection e1 with e1 e2 e3
 subst e1;have hc:=fun i u hu=>h2.cells (g:=g) rfl _ u (rowBl_get (i:=i) hx hkv hu)
 simp only[addr_add] at hc;exact⟨g,sA,sc,rA,rc,rfl,(h.oB g rfl).1,hf,hr,hc 0 _ rfl,hc 1 _ rfl,hc 2 _ rfl,hc 3 _ rfl,hc 4 _ rfl,hc 5 _ rfl,hc 6 _ rfl,hc 7 _ rfl,hc 8 _ rfl⟩
end
theorem own_cells {w:World}{base n sz c:Nat}{t:TypeId}{A:Option Addr}{xs:List Value} (h:w.ownsRow base t sz (.slice A n c) n xs):∀j u,xs[j]? = some u→∃ad,A=some ad∧w.cell? (ad.add j)=some u:=by
 intro j u hu
 rcases h.2 with ⟨e1,e2⟩|⟨g,cap,cur,e1,_⟩
 ·have:=h.1
  rw[e2,Nat.zero_mul] at this;rw[List.length_eq_zero_iff.1 this] at hu;simp at hu
 ·injection e1 with e1 e2 e3
  subst e1;exact⟨_,rfl,h.cells (g:=g) rfl j u hu⟩
def TreesAt (w:World) (F:Nat→Prop) (bs:List Bl) (kvs:List (Value×Value)):Prop:=∀(j:Nat) x kv,bs[j]? = some x→kvs[j]? = some kv→Forest w F kv.1 x.spans∧RowsF w F kv.2 x.rows
theorem TreesAt.chg {w w':World}{F G S:Nat→Prop}{bs:List Bl}{kvs:List (Value×Value)} (h:TreesAt w F bs kvs) (hc:Chg w w' S) (hF:∀k,F k→G k) (hS:∀k,F k→¬S k):TreesAt w' G bs kvs :=
 fun j x kv hx hk=>⟨(h j x kv hx hk).1.chg hc hF hS,RowsF.stays.go (h j x kv hx hk).2 hc hF hS⟩
theorem BlocksAt.own {w:World}{base B:Nat}{v:Value}{bs:List Bl}{kvs:List (Value×Value)} (h:w.ownsRow base tBl 9 v bs.length (rowBl bs kvs)) (hl:kvs.length=bs.length) (hT:TreesAt w (· < B) bs kvs) (hB:w.heap.size≤B):BlocksAt w B v bs:=by
 rcases h.2 with ⟨h1,h2⟩|⟨g,cap,cur,rfl,h2,h3,h4,_⟩
 ·have e:bs=[]:=List.length_eq_zero_iff.1 h2;subst e;exact⟨none,0,kvs,h1,Nat.le_refl _,hl,fun hn=>absurd rfl hn,hT⟩
 ·refine⟨_,cap,kvs,rfl,h4,hl,fun _=>⟨g,0,rfl,Nat.lt_of_lt_of_le (Array.getElem?_eq_some_iff.1 h3).1 hB,fun j x kv hj hk i u hu=>?_⟩,hT⟩;have h5:=h.cells (g:=g) rfl _ _ (rowBl_get hj hk hu);rw[addr_add] at h5;rw[Nat.zero_add];exact h5
theorem DiagsAt.own {w:World}{base B:Nat}{v:Value}{ds:List Dg} (h:w.ownsRow base tDg 4 v ds.length (rowD ds)) (hB:w.heap.size≤B):DiagsAt w B v ds:=by
 rcases h.2 with ⟨h1,h2⟩|⟨g,cap,cur,rfl,h2,h3,h4,_⟩
 ·have e:ds=[]:=List.length_eq_zero_iff.1 h2;subst e;exact⟨none,0,h1,Nat.le_refl _,fun hn=>absurd rfl hn⟩
 ·refine⟨_,cap,rfl,h4,fun _=>⟨g,0,rfl,Nat.lt_of_lt_of_le (Array.getElem?_eq_some_iff.1 h3).1 hB,fun j x hj i u hu=>?_⟩⟩;have h5:=h.cells (g:=g) rfl _ _ (rowD_get hj hu);rw[addr_add] at h5;rw[Nat.zero_add];exact h5
end Go.Bd
namespace Go.Proofs.YtkkebmciiiajeaaGreatDoor
open Go.RowKit Go.Bd
theorem BlkSm.plain {x:Bl} (h:manyL x.spans≤1000000000) (hr:x.rows=[]):BlkSm x:=by
 unfold BlkSm;rw[hr];refine⟨h,?_,Nat.zero_le _⟩;intro r hr;cases hr
theorem spans_sm {s:Bs} (h:s.length≤100000000):manyL (spansOf s)≤1000000000:=by have:=many_spans s;omega
theorem rowOf_len (s:ByteArray):(rowOf s).length≤s.size+1:=by
 have h1:(rowOf s).length≤(pieces ⟨(Lib.trimPrefix (trim s.data.toList) [124]).toArray⟩).length:=by
  unfold rowOf dropEnd;split
  ·rw[List.length_take,List.length_map];omega
  ·rw[List.length_map];exact Nat.le_refl _
 have h2:=Lib.countB_le bar (by decide) _ ⟨(Lib.trimPrefix (trim s.data.toList) [124]).toArray⟩ (Nat.le_refl _);rw[pieces_length] at h1;rw[size_mk] at h2;have h3:(Lib.trimPrefix (trim s.data.toList) [124]).length≤(trim s.data.toList).length:=by
  unfold Lib.trimPrefix;split
  ·rw[List.length_drop];omega
  ·exact Nat.le_refl _
 have h4:=trim_size s;omega
theorem rows_sm:∀{l:List Ln},wtX l≤100000000→∀r∈l.flatMap rowT,(∀c∈r,manyL c≤1000000000)∧r.length≤1000000000
 | [],_,r,h=>by simp at h
 | x::l,hw,r,h=>by
  rw[wtX] at hw;rw[List.flatMap_cons] at h
  rcases List.mem_append.1 h with h|h
  ·unfold rowT at h;split at h
   ·cases h
   ·rw[List.mem_singleton] at h;subst h;have h0:(tr x.text).size≤x.text.size:=tr_le x.text;refine⟨fun c hc=>?_,?_⟩
    ·obtain⟨t,ht,rfl⟩:=List.mem_map.1 hc;have h1:=rowOf_sum (tr x.text);have h2:=le_sum_mem (List.mem_map_of_mem (f:=(·.size)) ht);have h3:=size_list t;exact spans_sm (by omega)
    ·rw[List.length_map];have:=rowOf_len (tr x.text)
     omega
  ·exact rows_sm (l:=l) (by omega) r h
def BlkSy (x:Bl):Prop:=BlkSm x∧(sayL x.spans).length≤1000000000
theorem spans_sy {s:Bs} (h:s.length≤100000000):manyL (spansOf s)≤1000000000∧(sayL (spansOf s)).length≤1000000000:=⟨spans_sm h,by have:=say_spans s;omega⟩
theorem BlkSy.plain {x:Bl} (h:manyL x.spans≤1000000000∧(sayL x.spans).length≤1000000000) (hr:x.rows=[]):BlkSy x:=⟨BlkSm.plain h.1 hr,h.2⟩
theorem titled_sm {x:Bl}{f:ByteArray}{no:Int}{s:ByteArray} (h:s.size≤100000000) (hr:(∀r∈x.rows,(∀c∈r,manyL c≤1000000000)∧r.length≤1000000000)∧x.rows.length≤1000000000):BlkSy (titledB x f no s):=by
 have h1:=titleB_le s.data.toList;have h2:=size_list s;have h3:=spans_sy (s:=(titleB s.data.toList).1) (by omega);exact⟨⟨h3.1,hr.1,hr.2⟩,h3.2⟩
theorem no_rows_sm:(∀r∈([]:List (List (List Sp))),(∀c∈r,manyL c≤1000000000)∧r.length≤1000000000)∧([]:List (List (List Sp))).length≤1000000000:=by
 refine⟨?_,Nat.zero_le _⟩;intro r h;cases h
theorem cmd_sm (f:ByteArray) (no:Int) (s:ByteArray) (wd bh:Bs) (h:bh.length≤100000000):∀b∈(cmdR f no s wd bh).2.1,BlkSy b:=by
 unfold cmdR;split
 ·split
  ·intro b hb;cases hb
  ·intro b hb;simp only[figR,List.mem_singleton] at hb;subst hb;have:=fig_le bh
   exact titled_sm (by rw[size_mk];omega) no_rows_sm
 split
 ·intro b hb;simp only[noteR,List.mem_singleton] at hb;subst hb;exact BlkSy.plain (spans_sy h) rfl
 ·intro b hb;cases hb
theorem read_sm (f:ByteArray) (no:Int) (s:ByteArray) (rest:List Ln) (h:s.size+wtX rest≤100000000):∀b∈(readR f no s rest).2.1,BlkSy b:=by
 unfold readR;split
 ·intro b hb;simp only[headR,List.mem_singleton] at hb;subst hb;have h2:=lead_le s.data.toList 61;have h3:=size_list s;exact titled_sm (by rw[size_mk];omega) no_rows_sm
 split
 ·intro b hb;simp only[itemR,List.mem_singleton] at hb;subst hb;have hiz:(itemB s.data.toList).2.2.length≤s.size:=by
   have h1:=trim_size s;unfold itemB;split
   ·exact Nat.le_trans (lead_le _ _) h1
   ·split
    ·exact Nat.le_trans (lead_le _ _) h1
    ·simp
  exact BlkSy.plain (spans_sy (by omega)) rfl
 split
 ·intro b hb;cases hb
 split
 ·intro b hb;simp only[codeR,List.mem_singleton] at hb;subst hb;exact BlkSy.plain ⟨Nat.zero_le _,Nat.zero_le _⟩ rfl
 split
 ·intro b hb;simp only[tableR,List.mem_singleton] at hb;subst hb;have h4:(tabT s).size≤s.size:=by
   unfold tabT;rw[size_mk];have:=dropL_le (s.data.toList.drop 4)
   rw[List.length_drop,←size_list] at this;omega
  have h5:=wtX_split rest (tabN rest);have h6:=rowTs_le (rest.take (tabN rest));have h7:=wtX_len (rest.take (tabN rest));exact titled_sm (by omega) ⟨rows_sm (l:=rest.take (tabN rest)) (by omega),by show ((rest.take (tabN rest)).flatMap rowT).length≤1000000000;omega⟩
 ·intro b hb;simp only[paraR,List.mem_singleton] at hb;subst hb;have h1:=tail_len (rest.take (untilN (fun t=>!plainL t) rest));have h3:(paraB rest 0 s).length≤s.size+wtX (rest.take (untilN (fun t=>!plainL t) rest)):=by
   unfold paraB paraT;rw[List.drop_zero,Lib.join_cons,List.length_append,←size_list];omega
  have h5:=wtX_split rest (untilN (fun t=>!plainL t) rest);exact BlkSy.plain (spans_sy (by omega)) rfl
theorem step_sm (x:Ln) (rest:List Ln) (h:wtX (x::rest)≤100000000):∀b∈(stepR x rest).2.1,BlkSy b:=by
 rw[wtX] at h;have hs:(tr x.text).size≤x.text.size:=tr_le x.text;unfold stepR;split
 ·rename_i p hp;have h2:=(command_le hp).2;have h3:=trim_size x.text;exact cmd_sm _ _ _ _ _ (by omega)
 ·exact read_sm _ _ _ _ (by omega)
theorem blocks_sm:∀(m:Nat) (l:List Ln),l.length≤m→wtX l≤100000000→∀b∈blocksOf l,BlkSy b
 | _,[],_,_,b,hb=>by rw[blocksOf_nil] at hb;cases hb
 | 0,x::l,h,_,_,_=>by simp at h
 | m+1,x::l,h,hw,b,hb=>by
  rw[blocksOf_cons] at hb
  rcases List.mem_append.1 hb with hb|hb
  ·exact step_sm x l hw b hb
  ·have h1:=wtX_split l (stepR x l).1;rw[wtX] at hw;exact blocks_sm m (l.drop (stepR x l).1) (by simp at h ⊢;omega) (by omega) b hb
end Go.Proofs.YtkkebmciiiajeaaGreatDoor
namespace Go.Proofs.YtkkebmciiiajeaaGreatDoor
open Go.RowKit Go.Bd Go.Shelf
attribute [local go_sem] Oper.semAt_some
theorem said1_in (n:Nat) (hn:1≤n) (l bS b6 b7 bm:Nat) (s:ByteArray) (hs:s.size≤99999){m:Int} (J Jx:List Sd→World→Prop) (W:World) (hJ:AbidesFrom W.heap.size J)
  (hY:∀pre x W1,J pre W1→pre.length<(linesT s).length→YieldAt Fence.wide (n-1) Tryz.prog l (encSd x) W1 fun e W' =>
    (e=.returned (.bool true)∧J (pre++[x]) W'∧KpO b6 b7 bm W1 W')∨(e=.returned (.bool false)∧Jx (pre++[x]) W'))
  (hm:Glob m W) (hB:W.cell? ⟨bS,0,none⟩=some (.string s)) (h6:W.cell? ⟨b6,0,none⟩=some (.slice none 0 0)) (h7:W.cell? ⟨b7,0,none⟩=some (.slice none 0 0)) (hbm:bm<W.heap.size) (h0:J [] W) :
  CallsIn Fence.wide n Tryz.prog 48 #[.func (.yield l) #[] #[],.pointer (some ⟨bS,0,none⟩)] W fun e W'=>(∃v,e=.returned v) ∧
   ((∃ys,ys=saidN (linesT s) (linesT s).length∧J ys W')∨(∃pre,Jx pre W')):=by
 have hLn:=Lines_any s W (by omega) hm;have hln:=lines_le hs;have hnL:(linesT s).length≤100000:=Nat.le_trans (raw_len _) (Nat.le_trans (linesT_raw s) (by omega));refine callsIn_of_wp Tryz.func48 rfl trivial ?_ rfl;simp only[Tryz.ntmps48,List.size_toArray,List.length_cons,List.length_nil,Nat.reduceAdd,Nat.reduceSub,Array.replicate_succ,Array.replicate_zero,List.push_toArray,List.append_toArray,List.nil_append,List.cons_append]
 gi_wp2_with (refine⟨trivial,?_⟩;gi_at_call 49;refine (callsIn_wide.2 hLn).mono ?_;rintro e w1 ⟨x,rfl,hrow,hb1⟩;obtain⟨A,c,rfl,hc⟩:=own_rowL hrow)
 obtain⟨L,hL⟩:∃L,linesT s=L:=⟨_,rfl⟩;rw[hL] at hrow hln hY hc hnL ⊢;have hlt6:b6<W.heap.size:=World.block_lt_of_cell? _ _ h6;have hlt7:b7<W.heap.size:=World.block_lt_of_cell? _ _ h7;have hel:∀j t,L[j]? = some t→∃g,A=some ⟨g,0,none⟩∧OutO b6 b7 bm g w1∧w1.cell? ⟨g,j,none⟩=some (.string t):=fun j t ht=>by
  rcases hrow.2 with ⟨e1,e2⟩|⟨g,cap,cur,e1,_⟩
  ·have h1:=(List.getElem?_eq_some_iff.1 ht).1;injection e1 with e1 e3
   omega
  ·injection e1 with e1 e3 e4
   obtain⟨hg,cs,ho⟩:=own_obj hrow (g:=g) (by rw[e1];rfl);obtain⟨ad,ha,hcell⟩:=own_cells hrow j (.string t) (by simp[rowTx,ht]);have ead:ad=⟨g,0,none⟩:=by rw[e1] at ha;exact (Option.some.inj ha).symm
   rw[ead,Addr.add_lit] at hcell;refine⟨g,e1,⟨by omega,by omega,by omega,⟨_,ho,rfl⟩,_,_,(hb1.cell (p:=⟨b6,0,none⟩) hlt6).trans h6,(hb1.cell (p:=⟨b7,0,none⟩) hlt7).trans h7,?_,?_⟩,by simpa using hcell⟩
   ·intro e;cases e
   ·intro e;cases e
 have hJ1:J [] w1:=hJ _ _ _ none h0 (grown_below hb1) (fun r e=>by cases e);have hsz1:=hb1.size;clear hrow hLn;have HEL:=Lib.hid hel;have HY:=Lib.hid hY;have HLN:=Lib.hid hln;clear hel hY hln
 gi_loopw [8] (fun i wr=>∃k:Nat,k≤L.length∧i=.int .i64 (k:Int)∧J (saidN L k) wr∧KpO b6 b7 bm w1 wr) (fun i _=>L.length-(intOf i).toNat)
 case atStart=>exact⟨0,Nat.zero_le _,rfl,hJ1,Nat.le_refl _,fun g hg=>⟨hg,rfl⟩⟩
 case round =>
  obtain⟨k,hk,rfl,hJs,hkp⟩:=hrel
  by_cases hlt:k<L.length
  ·obtain⟨t,ht⟩:∃t,L[k]? = some t:=⟨_,List.getElem?_eq_getElem hlt⟩;obtain⟨g,rfl,hout,hcell⟩:=HEL.out k t ht;have hcr:wr.cell? ⟨g,k,none⟩=some (.string t):=(World.cell?_of_block (a:=⟨g,k,none⟩) (hkp.2 g hout).2).trans hcell;have htz:=HLN.out t (List.mem_of_getElem? ht);have hkz:=hkp.1;have HH:∀w2,Below wr.heap.size wr w2→J (saidN L k) w2∧KpO b6 b7 bm w1 w2:=fun w2 hb=>⟨hJ _ _ _ none hJs (grown_below hb) (fun r e=>by cases e),hkp.trans (KpO.ofBelow (by omega) (by omega) hb)⟩
   have HW:=Lib.hid HH;have hgd:L.getD k ⟨#[]⟩=t:=by rw[List.getD_eq_getElem?_getD,ht];rfl
   have hnx:saidN L (k+1)=saidN L k++saidX k t:=by rw[saidN,hgd]
   have hpl:=saidN_length L k;have HNX:=Lib.hid hnx;clear hkp hout HH hnx hgd hJs
   rcases htr:trim t.data.toList with _|⟨b,r⟩
   ·have hTr:Calls Tryz.prog 50 #[.string t,.string ⟨#[32,9]⟩] wr fun e w'=>e=.returned (.string ⟨#[]⟩)∧Below wr.heap.size wr w':=by
     have h:=strTrim_any t wr (by omega);rw[htr] at h;exact h
    have hsx:saidX k t=[]:=saidX_none (.inl htr);have HX:=Lib.hid hsx;clear hsx htr
    gi_wp2_with (refine⟨trivial,?_⟩;gi_at_call 50;refine (callsIn_wide.2 hTr).mono ?_;rintro e w2 ⟨rfl,hb2⟩)
    go_roundw
    case rel=>exact⟨k+1,hlt,by simp,by rw[HNX.out,HX.out,List.append_nil];exact (HW.out w2 hb2).1,(HW.out w2 hb2).2⟩
    case measure=>simp[intOf];omega
   ·have hTr:Calls Tryz.prog 50 #[.string t,.string ⟨#[32,9]⟩] wr fun e w'=>e=.returned (.string (ofB (b::r)))∧Below wr.heap.size wr w':=by
     have h:=strTrim_any t wr (by omega);rw[htr] at h;exact h
    obtain⟨u,hu⟩:∃u,ofB (b::r)=u:=⟨_,rfl⟩;have hu0:0<u.size:=by rw[←hu];exact Nat.succ_pos _
    have hub:u[0]'hu0=b:=by subst hu;rfl
    have hune:u≠⟨#[]⟩:=fun e=>by rw[e] at hu0;exact absurd hu0 (by decide)
    have hem:u.toList.isEmpty=false:=by rw[Lib.toList_data,←hu];rfl
    rw[hu] at hTr
    by_cases hb:b=35
    ·have hq:(((u[0]'hu0).toNat:Int)==35)=true:=by rw[hub,hb];rfl
     have hsx:saidX k t=[]:=saidX_none (.inr (by rw[htr,hb];rfl));have HX:=Lib.hid hsx;clear hsx htr hub hu
     gi_wp2_with (refine⟨trivial,?_⟩;gi_at_call 50;refine (callsIn_wide.2 hTr).mono ?_;rintro e w2 ⟨rfl,hb2⟩)
     go_roundw
     case rel=>exact⟨k+1,hlt,by simp,by rw[HNX.out,HX.out,List.append_nil];exact (HW.out w2 hb2).1,(HW.out w2 hb2).2⟩
     case measure=>simp[intOf];omega
    ·have hq:(((u[0]'hu0).toNat:Int)==35)=false:=by
      rw[hub,beq_eq_false_iff_ne];exact fun e=>hb (UInt8.toNat_inj.1 (by exact_mod_cast e))
     obtain⟨x,hx,hx1⟩:=saidX_some (k:=k) (l:=t) (by omega) (by omega) (by rw[htr];exact fun e=>e.elim (fun e=>by cases e) hb);rw[htr,hu] at hx1;have HX:=Lib.hid hx;clear hx htr hub hu
     gi_wp2_with (refine⟨trivial,?_⟩;gi_at_call 50;refine (callsIn_wide.2 hTr).mono ?_;rintro e w2 ⟨rfl,hb2⟩;obtain⟨fn,tmps,assign,body,hy,hR⟩:=HY.out _ x w2 (HW.out w2 hb2).1 (by omega);simp only[encSd,hx1] at hy;push_cast at hy)
     refine hR.mono ?_;rintro e W3 (⟨rfl,hJ3,hk3⟩|⟨rfl,hJx3⟩)
     ·gi_wp2
      go_roundw
      case rel=>exact⟨k+1,hlt,by simp,by rw[HNX.out,HX.out];exact hJ3,(HW.out w2 hb2).2.trans hk3⟩
      case measure=>simp[intOf];omega
     ·gi_wp2
      refine bodyPost_ret (results_none rfl _ _ _) rfl ?_;exact⟨⟨_,rfl⟩,.inr ⟨_,hJx3⟩⟩
  ·gi_wp2
   go_end0
   exact⟨⟨_,rfl⟩,.inl ⟨_,by rw[hL,show L.length=k by omega],hJs⟩⟩
theorem said_any (s:ByteArray) (w:World) :
  Calls Tryz.prog 28 #[.string s] w fun e w'=>e=.returned (.func (.func 48) #[] #[.pointer (some ⟨w.heap.size,0,none⟩)])∧w'=w.alloc (.cells #[.string s] 9):=by
 go_enter Tryz.func28,Tryz.ntmps28
 go_wp2
 go_ret
 exact⟨by simp,rfl⟩
theorem said_stops (n:Nat) (hn:1≤n) (bS b6 b7 bm:Nat) (s:ByteArray) (hs:s.size≤99999){m:Int} (w:World) (hm:Glob m w) (h3:3≤w.heap.size) (hB:w.cell? ⟨bS,0,none⟩=some (.string s)) (h6:w.cell? ⟨b6,0,none⟩=some (.slice none 0 0)) (h7:w.cell? ⟨b7,0,none⟩=some (.slice none 0 0)) (hbm:bm<w.heap.size) :
  SeqStopsK Fence.wide n Tryz.prog 48 #[.pointer (some ⟨bS,0,none⟩)] encSd (KpO b6 b7 bm) (fun ys=>ys=saidN (linesT s) (linesT s).length) (fun _=>True) (linesT s).length w:=fun l J Jx W hW hJ _ hY h0=>by
 have h1:=(hW.cell (p:=⟨bS,0,none⟩) (World.block_lt_of_cell? w _ hB)).trans hB;have h2:=(hW.cell (p:=⟨b6,0,none⟩) (World.block_lt_of_cell? w _ h6)).trans h6;have h4:=(hW.cell (p:=⟨b7,0,none⟩) (World.block_lt_of_cell? w _ h7)).trans h7;refine (said1_in n hn l bS b6 b7 bm s hs J Jx W hJ hY (hm.chg (Chg.below hW (fun _=>False)) (fun _ h=>h.elim)) h1 h2 h4 (Nat.lt_of_lt_of_le hbm hW.size) h0).mono ?_;rintro e W' ⟨he,⟨ys,hk,hj⟩|⟨pre,hj⟩⟩
 ·exact⟨he,.inl ⟨ys,hk,hj⟩⟩
 ·exact⟨he,.inr ⟨pre,trivial,hj⟩⟩
end Go.Proofs.YtkkebmciiiajeaaGreatDoor
namespace Go.Proofs.YtkkebmciiiajeaaGreatDoor
open Go.RowKit Go.Bd
section
variable {w w2:World} {κ:Nat→Nat} {rb wm:Nat} {sv:Value} {v:Rv} {st:Ast} {stk:Stk}
theorem sps_under:Tryz.prog.underlying 82=some (.slice tSp):=by kernel_rfl
theorem spA_info:(Tryz.prog.info? tSp).map (fun i=>(i.zero,i.size,i.bytes))=some (some (.pointer none),1,8):=by kernel_rfl
theorem txA_info:(Tryz.prog.info? tTx).map (fun i=>(i.zero,i.size,i.bytes))=some (some (.string ⟨#[]⟩),1,16):=by kernel_rfl
def pushK (κ:Nat→Nat) (n j g:Nat):Nat→Nat:=fun k=>if k<n then κ k else if k=n then 20+2*j else if k=g then 7 else 0
theorem push_done {A:Option Addr}{c g cap:Nat}{nm:ByteArray} (h:ARd w κ rb wm sv v st stk) (hv:v.ov=.slice A stk.length c)
  (hc:Chg w w2 (fun k=>(Value.slice A stk.length c).ownBlock=some k)) (ho:w2.ownsRow 0 tSp 1 (.slice (some ⟨g,0,none⟩) (stk.length+1) cap) (stk.length+1) (v.sb.map (fun p=>.pointer (some ⟨p.1,0,none⟩))++[.pointer (some ⟨w.heap.size,0,none⟩)]))
  (hs:Holds w2 w.heap.size tSrc #[.string nm,.slice none 0 0]) (hat:(Value.slice A stk.length c).ownBlock=some g∨w.heap.size<g) (hg:g<w2.heap.size) :
  ARd (w2.setCell ⟨rb,3,none⟩ (.slice (some ⟨g,0,none⟩) (stk.length+1) cap)) (pushK κ w.heap.size stk.length g) rb wm sv { v with ov:=.slice (some ⟨g,0,none⟩) (stk.length+1) cap,sb:=v.sb++[(w.heap.size,.slice none 0 0)] } st (stk++[(nm,[])]) ∧
  Mv w (w2.setCell ⟨rb,3,none⟩ (.slice (some ⟨g,0,none⟩) (stk.length+1) cap)) κ (pushK κ w.heap.size stk.length g):=by
 have hrl:rb<w.heap.size:=h.hold.lt;have hgr:g≠rb:=fun e=>by
  rcases hat with h1|h1
  ·have h2:=h.kO g (by rw[hv];exact h1);have h3:=h.kR;rw[e] at h2;omega
  ·omega
 have hold:∀k,k<w.heap.size→pushK κ w.heap.size stk.length g k=κ k:=fun k hk=>by unfold pushK;rw[if_pos hk]
 have hS:=Chg.set w2 ⟨rb,3,none⟩ (.slice (some ⟨g,0,none⟩) (stk.length+1) cap);have hz:(w2.setCell ⟨rb,3,none⟩ (.slice (some ⟨g,0,none⟩) (stk.length+1) cap)).heap.size=w2.heap.size:=by simp[World.setCell]
 have R:Rest w (w2.setCell ⟨rb,3,none⟩ (.slice (some ⟨g,0,none⟩) (stk.length+1) cap)) κ 7 (pushK κ w.heap.size stk.length g):=by
  refine⟨(hc.mono (T:=fun k=>κ k=1∨κ k=7) (fun k _ hk=>.inr (h.kO k (by rw[hv];exact hk)))).trans hS (fun k _ hk=>.inl (by rw[show k=rb from hk];exact h.kR)),hold,fun k hk=>?_⟩;rw[hz];have h2:=hc.size;have h3:=hs.lt;unfold pushK at hk;split at hk
  ·omega
  ·split at hk
   ·omega
   ·split at hk
    ·omega
    ·exact absurd rfl hk
 have hgn:g≠w.heap.size:=fun e=>by
  rcases hat with h1|h1
  ·have h2:=h.kO g (by rw[hv];exact h1);have h3:=h.lt g (by omega);omega
  ·omega
 refine⟨h.push R ((hc.holds (fun e=>by have h2:=h.kO rb (by rw[hv];exact e);have h3:=h.kR;omega) h.hold).set 3 _) (hS.owns ho (fun k hk e=>by
  have e1:g=k:=by simpa [Value.ownBlock] using hk
  exact hgr (e1.trans e))) (fun k hk=>?_) ⟨hS.holds (fun e=>by have e:w.heap.size=rb:=e;omega) hs,⟨rfl,.inl ⟨rfl,rfl⟩⟩,?_,fun k hk=>by cases hk⟩,R.mv (by decide)⟩
 ·have e1:g=k:=by simpa [Value.ownBlock] using hk
  rw[←e1]
  rcases hat with h1|h1
  ·have h2:=h.kO g (by rw[hv];exact h1);rw[hold g (h.lt g (by omega))];exact h2
  ·unfold pushK;rw[if_neg (by omega),if_neg hgn,if_pos rfl]
 ·unfold pushK;rw[if_neg (Nat.lt_irrefl _),if_pos rfl]
theorem ARd.came (h:ARd w κ rb wm sv v st stk) (n:ByteArray) (hn:n.size≤1000000000) (ha:st.begun.length≤1000000000000) :
  ∃w',(Instr.mapUpdate 81 (.map (some v.bm)) (.string n) (.agg #[])).run Tryz.prog w=.ok () w'∧ARd w' κ rb wm sv v { st with begun:=putN st.begun n } stk∧Mv w w' κ κ:=by
 obtain⟨w2,r2,m2,k2,z2,u2⟩:=set_store h.begun h.uB n hn ha;have hM:Rest w w2 κ 5 κ:=⟨k2.mono (fun k _ hk=>.inr (by rw[show k=v.bm from hk];exact h.kB)),fun _ _=>rfl,fun k hk=>by rw[z2];exact h.lt k hk⟩;have hh2:Holds w2 rb tAr #[sv,v.av,.map (some wm),v.ov,.int .i64 (st.count:Int),.map (some v.dm),.map (some v.am),.map (some v.bm),v.lv,v.dv,v.fv]:=k2.holds (fun e=>by have:=h.kB;have:=h.kR;rw[show rb=v.bm from e] at this;omega) h.hold;exact⟨w2,r2,h.set_begun hM hh2 m2 u2,hM.mv (by decide)⟩
end
end Go.Proofs.YtkkebmciiiajeaaGreatDoor
