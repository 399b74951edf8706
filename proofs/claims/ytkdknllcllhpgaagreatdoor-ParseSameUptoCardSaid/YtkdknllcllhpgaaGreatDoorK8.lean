/-
  What the chapter's laws share, part 8: plain facts, memory, and walks of functions. Its conditions: those that each theorem names.
-/
import Derived.Test.YtkdknllcllhpgaaGreatDoorProg
import Derived.WalkKit
import Derived.Defers
import Derived.Recover
import Derived.Lib.Hide
import Derived.Test.YtkdknllcllhpgaaGreatDoorK0
import Derived.Test.YtkdknllcllhpgaaGreatDoorK7
set_option linter.unusedSimpArgs false
set_option linter.unusedVariables false
set_option maxHeartbeats 16000000
set_option maxRecDepth 100000
namespace Go.Bd
open Go.RowKit
def linesR (src:List Sc) (d:Nat) (O:List ByteArray) (f:ByteArray) (i:Nat) (ts:List ByteArray) (st:Ast) (cs:List Cd):Rs:=linesM (fun m u s=>readM src d O m u s) src O f i ts st cs
def lineR (src:List Sc) (d:Nat) (O:List ByteArray) (l:Ln) (st:Ast) (cs:List Cd):Rs:=lineM (fun m u s=>readM src d O m u s) src O l st cs
section
variable (src:List Sc) (d:Nat) (O:List ByteArray) (f:ByteArray) (i:Nat) (t:ByteArray) (ts:List ByteArray) (st:Ast) (cs:List Cd)
theorem linesR_nil:linesR src d O f i [] st cs=(st,cs):=rfl
theorem linesR_long (h:16384≤st.count):linesR src d O f i (t::ts) st cs=({ st.tell ⟨f,(i:Int)+1,t⟩ 6 ⟨#[]⟩ with over:=true },cs):=by
 unfold linesR;rw[linesM,if_pos h]
theorem linesR_over (h:¬16384≤st.count) (ho:(lineR src d O ⟨f,(i:Int)+1,t⟩ { st with count:=st.count+1 } cs).1.over=true) :
  linesR src d O f i (t::ts) st cs=lineR src d O ⟨f,(i:Int)+1,t⟩ { st with count:=st.count+1 } cs:=by
 unfold linesR lineR at *;rw[linesM,if_neg h];dsimp only;rw[if_pos ho]
theorem linesR_next (h:¬16384≤st.count) (ho:¬(lineR src d O ⟨f,(i:Int)+1,t⟩ { st with count:=st.count+1 } cs).1.over=true) :
  linesR src d O f i (t::ts) st cs=linesR src d O f (i+1) ts (lineR src d O ⟨f,(i:Int)+1,t⟩ { st with count:=st.count+1 } cs).1 (lineR src d O ⟨f,(i:Int)+1,t⟩ { st with count:=st.count+1 } cs).2:=by
 unfold linesR lineR at *;rw[linesM,if_neg h];dsimp only;rw[if_neg ho]
end
theorem Lm.one {k:Nat}{s:Ast} (h:Lm 0 k s) (ho:s.over=false) (hc:¬16384≤s.count):Lm 1 k { s with count:=s.count+1 }:=by
 obtain⟨g1,g2,g3,g4,g5,g6,g7,g8,g9,g10⟩:=h;rw[ho] at g8;refine⟨by show s.count+1≤16384;omega,?_,?_,?_,?_,?_,?_,?_,g9,g10⟩
 ·show s.attrs.length+1≤64+(s.count+1);omega
 ·show s.done.length+1≤s.count+1;omega
 ·show s.asked.length+_≤100001*(s.count+1);omega
 ·show s.lines.length+1≤s.count+1;omega
 ·show s.files.length+1≤s.count+1+1;omega
 ·show s.begun.length+1≤s.count+1+1;omega
 ·show s.diags.length+k+2*1≤2*(s.count+1)+(if s.over then 1 else 0)
  rw[ho];simp at g8 ⊢;omega
def tellsM (st:Ast) (cs:List Cd):Ast:=cs.foldl (fun s c=>s.tell c.at' 4 ⟨#[]⟩) st
theorem readM_lines (src:List Sc) (d:Nat) (opens:List ByteArray) (n t:ByteArray) (st:Ast):readM src (d+1) opens n t st =
  if (linesR src d (opens++[n]) n 0 (linesT t) (beginS st n) []).1.over then (linesR src d (opens++[n]) n 0 (linesT t) (beginS st n) []).1
  else tellsM (linesR src d (opens++[n]) n 0 (linesT t) (beginS st n) []).1 (linesR src d (opens++[n]) n 0 (linesT t) (beginS st n) []).2:=readM_succ src d opens n t st
theorem tellsM_snoc (st:Ast) (cs:List Cd) (c:Cd):tellsM st (cs++[c])=(tellsM st cs).tell c.at' 4 ⟨#[]⟩:=by unfold tellsM;rw[List.foldl_append];rfl
theorem tellsM_diags:∀(cs:List Cd) (st:Ast),(tellsM st cs).diags.length=st.diags.length+cs.length
 | [],st=>rfl
 | c::cs,st=>by
  have h:=tellsM_diags cs (st.tell c.at' 4 ⟨#[]⟩);have e:(st.tell c.at' 4 ⟨#[]⟩).diags.length=st.diags.length+1:=by show (st.diags++[_]).length=_;simp
  have e2:tellsM st (c::cs)=tellsM (st.tell c.at' 4 ⟨#[]⟩) cs:=rfl;rw[e2,h,e,List.length_cons];omega
end Go.Bd
namespace Go.Proofs.YtkdknllcllhpgaaGreatDoor
open Go.RowKit Go.Bd
section
variable {w w2:World} {κ:Nat→Nat} {rb wm:Nat} {sv:Value} {v:Rv} {st:Ast} {pre stk:Stk}
theorem pop_done {nm:ByteArray}{cs:List Cd}{pb:List (Nat×Value)}{b g cap:Nat}{rv:Value} (h:ARd w κ rb wm sv v st (pre++[(nm,cs)])) (hv:v.sb=pb++[(b,rv)]) (hov:v.ov=.slice (some ⟨g,0,none⟩) (pre.length+1) cap) :
  ARd (w.setCell ⟨rb,3,none⟩ (.slice (some ⟨g,0,none⟩) pre.length cap)) κ rb wm sv { v with ov:=.slice (some ⟨g,0,none⟩) pre.length cap,sb:=pb } st pre∧Mv w (w.setCell ⟨rb,3,none⟩ (.slice (some ⟨g,0,none⟩) pre.length cap)) κ κ:=by
 have hS:=Chg.set w ⟨rb,3,none⟩ (.slice (some ⟨g,0,none⟩) pre.length cap);have hz:(w.setCell ⟨rb,3,none⟩ (.slice (some ⟨g,0,none⟩) pre.length cap)).heap.size=w.heap.size:=by simp[World.setCell]
 have R:Rest w (w.setCell ⟨rb,3,none⟩ (.slice (some ⟨g,0,none⟩) pre.length cap)) κ 7 κ:=⟨hS.mono (fun k _ hk=>.inl (by rw[show k=rb from hk];exact h.kR)),fun _ _=>rfl,fun k hk=>by rw[hz];exact h.lt k hk⟩;have hk:∀k,(Value.slice (some ⟨g,0,none⟩) pre.length cap).ownBlock=some k→κ k=7:=fun k hk=>h.kO k (by rw[hov];exact hk)
 have hr:=h.opens;rw[hov,List.length_append,List.length_singleton] at hr;obtain⟨v',e,h2⟩:=own_take hr (j:=pre.length) (by omega);subst e;have hl:pb.length=pre.length:=h.pbl hv;have e:(v.sb.map fun p=>Value.pointer (some ⟨p.1,0,none⟩)).take (pre.length*1)=pb.map fun p=>Value.pointer (some ⟨p.1,0,none⟩):=by
  rw[hv,List.map_append,Nat.mul_one,List.take_append_of_le_length (by rw[List.length_map];omega),List.take_of_length_le (by rw[List.length_map];omega)]
 rw[e] at h2;exact⟨h.pop hv R (h.hold.set 3 _) (hS.owns h2 (fun k hk2 e=>by have h3:=hk k hk2;have h4:=h.kR;rw[show k=rb from e] at h3;omega)) hk,R.mv (by decide)⟩
theorem cond_cell {j:Nat}{rv:Value}{nm:ByteArray}{cs:List Cd}{b i:Nat}{c:Cd} (hs:SrcAt w κ j (b,rv) (nm,cs)) (hc:cs[i]? = some c):∃g cap,rv=.slice (some ⟨g,0,none⟩) cs.length cap∧∀q u,(cdCells c)[q]? = some u→w.cell? ⟨g,i*6+q,none⟩=some u:=by
 have hi:=(List.getElem?_eq_some_iff.1 hc).1;obtain⟨g,cap,e,_,_,_,h2,_⟩:=own_rowN hs.row (by dsimp only;omega);exact⟨g,cap,e,fun q u hu=>h2 _ _ (flat_get cdCells 6 (fun _=>rfl) hc hu)⟩
def okW (t:ByteArray):Bool:=!decide (t.data.toList.headD 0=64) || decide ((wordB t.data.toList).1=wIncl)
theorem okW_at {t:ByteArray} (h:okW t=true) (hx:t.data.toList.headD 0=64):(wordB t.data.toList).1=wIncl:=by
 unfold okW at h;rw[decide_eq_true hx,Bool.not_true,Bool.false_or] at h;exact of_decide_eq_true h
theorem find_ok {src:List Sc} (hk:∀s∈src,∀t∈linesT s.text,okW t=true){n t:ByteArray} (h:findS src n=some t):∀x∈linesT t,okW x=true:=by
 unfold findS at h;cases he:src.find? (fun s=>decide (s.name=n)) with
 | none=>rw[he] at h;cases h
 | some s =>
  rw[he] at h;cases h
  exact hk s (List.mem_of_find?_eq_some he)
theorem line_any {PC:List PanicEntry}{S:Nat→Prop}{inc:ByteArray→ByteArray→Ast→Ast}{src:List Sc}{nm:ByteArray}{cs:List Cd}{pb:List (Nat×Value)}{b j:Nat}{rv:Value} (h:ARd w κ rb wm sv v st (pre++[(nm,cs)])) (hv:v.sb=pb++[(b,rv)]) (hov:st.over=false) (hsc:ScS w S sv src) (hS:∀k,S k→k<w.heap.size∧κ k=0) (hsn:src.length≤1000000000)
  (hn:pre.length<16) (hlm:Lm 1 (cs.length+j) st) {m:Int} (hg:Glob m w) (l:Ln) (hz:l.text.size≤100000) (hin:l.text.data.toList.headD 0=64→(wordB l.text.data.toList).1=wIncl)
  (hread:∀(W:World) (rest t:ByteArray),rest.size≤100000→pre.length+1<16→ARd W κ rb wm sv v st (pre++[(nm,cs)])→Mv w W κ κ→findS src rest=some t→Calls Tryz.prog 78 #[.pointer (some ⟨rb,0,none⟩),.string rest,.string t] W fun e w'=>ReadP PC W κ rb wm sv v (pre++[(nm,cs)]) (inc rest t st) e w') :
  Calls Tryz.prog 121 #[.pointer (some ⟨rb,0,none⟩),lnV l] w fun e w'=>LineP PC w κ rb wm sv pre nm pb b (lineM inc src (pre.map (·.1)++[nm]) l st cs) e w':=by
 have h1:=hlm.cnt;have h2:=hlm.attrs;have h3:=hlm.done;have h4:=hlm.asked;have h5:=hlm.lines;have h8:=hlm.diags;rw[hov] at h8;simp at h8
 by_cases hx:l.text.data.toList.headD 0=64
 ·exact line_word h hv hov hsc hS hsn (by omega) (by omega) (by omega) (by omega) (by omega) (by omega) hlm.vals hlm.rise hg l hz hx (hin hx) hread
 ·refine (line_text (inc:=inc) (src:=src) (opens:=pre.map (·.1)++[nm]) h hv (by omega) (by omega) hlm.vals (by omega) (by omega) (by omega) l (by omega) hx).mono ?_;rintro e w' ⟨rfl,hP⟩;refine LineP.back ?_ rfl hP;unfold lineM;dsimp only;rw[if_neg (by simpa using hx)];split
  ·exact ((asks_attrs _ st).2.2.1).trans hov
  ·exact hov
def CameP (w:World) (κ:Nat→Nat) (rb wm:Nat) (sv:Value) (v:Rv) (st:Ast) (stk:Stk) (wx:World):Prop :=
 ∃κ' v',v'.sb=v.sb∧ARd wx κ' rb wm sv v' st stk∧Mv w wx κ κ'
theorem read_step {S:Nat→Prop}{src:List Sc}{d j:Nat} (h:ARd w κ rb wm sv v st stk) (hov:st.over=false) (hsc:ScS w S sv src) (hS:∀k,S k→k<w.heap.size∧κ k=0) (hsn:src.length≤1000000000) (hz:∀s∈src,s.text.size≤99999) (hkw:∀s∈src,∀t∈linesT s.text,okW t=true)
  (hlm:Lm 0 j st) (hfl:st.files.length≤st.count) (hbl:st.begun.length≤st.count) {m:Int} (hg:Glob m w) (name text:ByteArray) (hnz:name.size≤100000) (hf:findS src name=some text) (hn:stk.length<16)
  (hread:∀(W:World) (κ':Nat→Nat) (v':Rv) (st':Ast) (stk':Stk) (rest t:ByteArray),stk'.length=stk.length+1→stk'.length<16→Mv w W κ κ'→ARd W κ' rb wm sv v' st' stk'→st'.over=false→(∃j,Lm 0 j st')→st'.files.length≤st'.count→st'.begun.length≤st'.count→rest.size≤100000→findS src rest=some t →
    Calls Tryz.prog 78 #[.pointer (some ⟨rb,0,none⟩),.string rest,.string t] W fun e w'=>ReadP [⟨.iface 138 (.int .i64 1),false,false⟩] W κ' rb wm sv v' stk' (readM src d (stk'.map (·.1)) rest t st') e w') :
  Calls Tryz.prog 78 #[.pointer (some ⟨rb,0,none⟩),.string name,.string text] w fun e w'=>ReadP [⟨.iface 138 (.int .i64 1),false,false⟩] w κ rb wm sv v stk (readM src (d+1) (stk.map (·.1)) name text st) e w':=by
 have hbeg:=begin_lm hlm hfl hbl name;have htz:=find_le hz hf;have hll:=lines_le htz;have HOKL:=Lib.hid (find_ok hkw hf);clear hkw;have HH:=hidH9 h hov hsc hS hg hread hbeg hz hll;have hl:=set_look h.begun name (by omega);have c7:=h.hold.cell 7;simp at c7;have hfn:st.files.length≤1000000000:=by have:=hlm.cnt;omega
 have hbn:st.begun.length≤1000000000:=by have:=hlm.cnt;omega
 obtain⟨bb,hbb⟩:∃bb,hasN st.begun name=bb:=⟨_,rfl⟩;rw[hbb] at hl;have HBB:=Lib.hid hbb;clear h hov hsc hS hg hread hbeg hll hz hlm hfl hbl hbb hf
 go_enter Tryz.func78,Tryz.ntmps78
 go_upto_if 24 with fail
 go_cut [7] (fun _ wx=>Hid (CameP w κ rb wm sv v (beginS st name) stk wx))
 case first =>
  cases bb
  ·have hB:=(Below.refl w.heap.size w).alloc (Nat.le_refl _) (.cells #[] 100);have h1:=HH.out.1.below hB;obtain⟨w2,r2,h2,m2⟩:=h1.came name (by omega) (by omega);have c7b:=h1.hold.cell 7;simp at c7b;obtain⟨ls,hls⟩:∃ls,st.files=ls:=⟨_,rfl⟩;have hfr:=h2.files;dsimp only at hfr;rw[hls] at hfr hfn;obtain⟨A,c,hfv,_⟩:=own_rowL hfr;have c10:=h2.hold.cell 10;have hrl:rb<w2.heap.size:=h2.hold.lt;rw[hfv] at c10 hfr;simp at c10;have e10:(w2.alloc (.cells #[.string name] 9)).cell? ⟨rb,10,none⟩=some (.slice A ls.length c):=by rw[World.cell?_alloc_lt _ _ _ hrl];exact c10
   obtain⟨i0,hi0,hz0,hz1,hz2⟩:=info_parts txA_info;have hkr:(Value.slice A ls.length c).ownBlock≠some rb:=fun e=>by have h3:=h2.kF rb (by rw[hfv];exact e);have h4:=h2.kR;omega
   have HI:=hidH5 hi0 hz0 hz1 hz2 hkr;have H2:=hidH5 h2 ((Mv.below hB κ).trans m2) hfv (hfr.alloc (.cells #[.string name] 9)) hls;obtain⟨fl,hfle⟩:∃fl,ls.length=fl:=⟨_,rfl⟩;have HFL:=Lib.hid hfle;have HO:Hid ((w2.alloc (.cells #[.string name] 9)).ownsRow 0 tTx 1 (.slice A fl c) fl (rowTx ls)):=Lib.hid (by rw[←hfle];exact H2.out.2.2.2.1);have HK:Hid ((Value.slice A fl c).ownBlock≠some rb):=Lib.hid (by rw[←hfle];exact hkr);rw[hfle] at e10 c10 hfn;clear h1 h2 m2 hB hi0 hz0 hz1 hz2 hfr hfv hfle hls hkr
   go_upto_region 3 with fail
   go_wp2_with (at_builtin;refine wpList_append_lies _ rfl _ _ 24 rfl 0 9 i0 _ 1 16 txs_underA HI.out.1 HI.out.2.1 HI.out.2.2.1 HI.out.2.2.2.1 rfl (by omega) _ fl (rowTx ls) rfl HO.out ⟨w2.heap.size,0,none⟩ 1 1 [.string name] rfl rfl (World.news_of_block (cs:=#[.string name]) (t:=9) (fr:=(0,0)) (heap_alloc_new w2 _)) (by simp[Value.oneCell']) (by omega) (by unfold maxLen;omega) (by omega) (Nat.zero_le _) (w2.heap.size+1) (by simp) ?_;intro g cap w3 ho3 hg3 hat3 hl3;have hC3:Chg w2 w3 (fun k=>(Value.slice A fl c).ownBlock=some k):=((Chg.refl w2 _).alloc _).trans (Chg.grown hg3) (fun _ _ h=>h.symm);have hh3:=hC3.holds HK.out H2.out.1.hold;have k3:=hh3.cell 10;have f3:=hh3.free 10;simp at k3;have H3:=hidH5 hC3 ho3 hat3 hh3 hl3;clear hC3 ho3 hg3 hat3 hh3 hl3)
   go_meet
   case rel =>
    have hfl:=HFL.out;subst hfl;have hgb:g≠rb:=fun e=>by
     rcases H3.out.2.2.1 with h|h
     ·exact HK.out ((show (Value.slice A ls.length c).ownBlock=some g from h).trans (by rw[e]))
     ·omega
    have hb:=HBB.out;have e:beginS st name={ st with begun:=putN st.begun name,files:=st.files++[name] }:=by unfold beginS;rw[if_neg (by rw[hb];decide)]
    refine Lib.hid ?_;unfold CameP;rw[e];exact⟨_,{ v with fv:=.slice (some ⟨g,0,none⟩) (ls.length+1) cap },rfl,file_done (d:=name) H2.out.1 H2.out.2.2.1 H2.out.2.2.2.2 H3.out.1 H3.out.2.1 H3.out.2.2.1 H3.out.2.2.2.1 H3.out.2.2.2.2 hgb,H2.out.2.1.trans (file_mv H2.out.1 H2.out.2.2.1 H2.out.2.2.2.2 H3.out.1 H3.out.2.2.1 H3.out.2.2.2.2)⟩
  ·go_wp2_with fail
   go_meet
   case rel =>
    have hB:=(Below.refl w.heap.size w).alloc (Nat.le_refl _) (.cells #[] 100);refine Lib.hid ⟨κ,v,rfl,?_,Mv.below hB κ⟩;have e:beginS st name=st:=by unfold beginS;rw[if_pos HBB.out]
    rw[e];exact HH.out.1.below hB
 case rest =>
  clear hl c7;obtain⟨κ1,v1,hsb1,h1,m1⟩:=hcut.out;obtain⟨n,hnn⟩:∃n,wc.heap.size=n:=⟨_,rfl⟩;have hB1:=(Below.refl wc.heap.size wc).alloc (Nat.le_refl _) (.cells #[.string name,.slice none 0 0] 174);obtain⟨W1,hW1⟩:∃W1,wc.alloc (.cells #[.string name,.slice none 0 0] 174)=W1:=⟨_,rfl⟩;have hs1:W1.heap.size=n+1:=by rw[←hW1,World.size_alloc,hnn]
  have hX:=Holds.new wc 174 #[.string name,.slice none 0 0];rw[hW1] at hX hB1;have hr1:=h1.opens;obtain⟨sl,hsl⟩:∃sl,stk.length=sl:=⟨_,rfl⟩;rw[hsl] at hr1 hn;obtain⟨A,c,hov1,hcap⟩:=own_rowL hr1;have c3:=(h1.below hB1).hold.cell 3;have hrl:rb<W1.heap.size:=(h1.below hB1).hold.lt;rw[hov1] at c3 hr1;simp at c3;have e3:(W1.alloc (.cells #[.pointer (some ⟨n,0,none⟩)] 164)).cell? ⟨rb,3,none⟩=some (.slice A sl c):=by rw[World.cell?_alloc_lt _ _ _ hrl];exact c3
  obtain⟨i0,hi0,hz0,hz1,hz2⟩:=info_parts spA_info;have hkr:(Value.slice A sl c).ownBlock≠some rb:=fun e=>by have h3:=h1.kO rb (by rw[hov1];exact e);have h4:=h1.kR;omega
  have hkn:(Value.slice A sl c).ownBlock≠some n:=fun e=>by have h3:=h1.kO n (by rw[hov1];exact e);have h4:=h1.lt n (by omega);omega
  have hO:(W1.alloc (.cells #[.pointer (some ⟨n,0,none⟩)] 164)).ownsRow 0 164 1 (.slice A sl c) sl (v1.sb.map fun p=>.pointer (some ⟨p.1,0,none⟩)):=by
   have h5:=hr1.alloc (.cells #[.string name,.slice none 0 0] 174);rw[hW1] at h5;exact h5.alloc _
  have HI:=hidH6 hi0 hz0 hz1 hz2 hkr hkn;have H1:=hidH6 h1 m1 hov1 hsb1 hX hB1;have HN:=hidH4 hnn hW1 hs1 hsl;have HO:=Lib.hid hO;clear hcut h1 m1 hov1 hsb1 hX hB1 hnn hs1 hsl hi0 hz0 hz1 hz2 hkr hkn hr1 hO
  go_upto_region 5 with fail
  (try rw[hW1])
  (try rw[HN.out.1])
  go_upto_region 6 with (at_builtin;refine wpList_append_lies _ rfl _ _ 92 rfl 0 164 i0 _ 1 8 sps_under HI.out.1 HI.out.2.1 HI.out.2.2.1 HI.out.2.2.2.1 rfl (by omega) (.slice A sl c) sl (v1.sb.map fun p=>.pointer (some ⟨p.1,0,none⟩)) (by rfl) HO.out ⟨W1.heap.size,0,none⟩ 1 1 [.pointer (some ⟨n,0,none⟩)] rfl rfl (World.news_of_block (cs:=#[.pointer (some ⟨n,0,none⟩)]) (t:=164) (fr:=(0,0)) (heap_alloc_new W1 _)) (by simp[Value.oneCell']) (by omega) (by unfold maxLen;omega) (by omega) (Nat.zero_le _) (W1.heap.size+1) (by simp) ?_;intro g cap w2 ho2 hg2 hat2 hl2;have hC2:Chg W1 w2 (fun k=>(Value.slice A sl c).ownBlock=some k):=((Chg.refl W1 _).alloc _).trans (Chg.grown hg2) (fun _ _ h=>h.symm);have hh2:=hC2.holds HI.out.2.2.2.2.1 (H1.out.1.below H1.out.2.2.2.2.2).hold;have k3:=hh2.cell 3;have f3:=hh2.free 3;simp at k3;have H2:=hidH5 hC2 ho2 hat2 hh2 hl2;clear hC2 ho2 hg2 hat2 hh2 hl2)
  obtain⟨W3,hW3⟩:∃W3,w2.setCell ⟨rb,3,none⟩ (.slice (some ⟨g,0,none⟩) (sl+1) cap)=W3:=⟨_,rfl⟩;have hpd:ARd W3 (pushK κ1 n sl g) rb wm sv { v1 with ov:=.slice (some ⟨g,0,none⟩) (sl+1) cap,sb:=v1.sb++[(n,.slice none 0 0)] } (beginS st name) (stk++[(name,[])])∧Mv wc W3 κ1 (pushK κ1 n sl g):=by
   have hsl:=HN.out.2.2.2;have hnn:=HN.out.1;subst hsl;subst hnn;rw[←hW3];have hsz:=HN.out.2.2.1;have hC:Chg wc w2 (fun k=>(Value.slice A stk.length c).ownBlock=some k):=(HN.out.2.1 ▸ (Chg.refl wc _).alloc _:Chg wc W1 _).trans H2.out.1 (fun _ _ h=>h);refine push_done (nm:=name) H1.out.1 H1.out.2.2.1 hC H2.out.2.1 (H2.out.1.holds HI.out.2.2.2.2.2 H1.out.2.2.2.2.1) ?_ H2.out.2.2.2.2
   rcases H2.out.2.2.1 with e|e
   ·exact .inl e
   ·exact .inr (by omega)
  have HP:=Lib.hid hpd;have HW3:=Lib.hid hW3;clear hpd k3 f3 c3 e3;have hmv:=H1.out.2.1.trans HP.out.2;have hG3:Glob m W3:=HH.out.2.2.2.2.1.chg hmv.chg (fun k hk=>HH.out.1.three k hk);have hLn:=Lines_any text W3 (by omega) hG3;have HLn:=hidH3 hLn hmv hG3;clear hLn hmv hG3
  go_wp2_with fail
  (try rw[HW3.out])
  clear hW3 hW1;refine HLn.out.1.mono ?_;rintro e W5 ⟨x,rfl,hrow,hb5⟩;obtain⟨A5,c5,hx5,hc5⟩:=own_rowL hrow;subst hx5;obtain⟨κ2,hκ2⟩:∃κ2,pushK κ1 n sl g=κ2:=⟨_,rfl⟩;obtain⟨v2,hv2⟩:∃v2:Rv,{ v1 with ov:=.slice (some ⟨g,0,none⟩) (sl+1) cap,sb:=v1.sb++[(n,.slice none 0 0)] }=v2:=⟨_,rfl⟩;obtain⟨ls,hls⟩:∃ls,linesT text=ls:=⟨_,rfl⟩;obtain⟨nl,hnl⟩:∃nl,ls.length=nl:=⟨_,rfl⟩;have hp1:=HP.out.1;have hp2:=HP.out.2;rw[hκ2,hv2] at hp1;rw[hκ2] at hp2;have hlls:=HH.out.2.2.2.2.2.2.2.2;have HLSE:=Lib.hid hls;rw[hls] at hlls hrow;have hnll:nl≤1000000:=by
   have h1:=linesT_raw text;have h2:∀l:List ByteArray,l.length≤rawT l:=fun l=>by
    induction l with
    | nil=>exact Nat.zero_le _
    | cons a l ih=>rw[List.length_cons];have e:rawT (a::l)=a.size+1+rawT l:=by simp[rawT]
                   omega
   have h3:=h2 (linesT text);rw[hls] at h3 h1;omega
  rw[hls,hnl] at hc5 ⊢;have hcells:∀(W:World) (κ':Nat→Nat),Mv W5 W κ2 κ'→∀(k:Nat) (t:ByteArray),ls[k]? = some t→∃g5,A5=some ⟨g5,0,none⟩∧W.cell? ⟨g5,k,none⟩=some (.string t):=fun W κ' hW k t hk=>by
   have hkl:=(List.getElem?_eq_some_iff.1 hk).1;obtain⟨g5,cap5,hh,_,_,hgl,hcl,_⟩:=own_rowN hrow (by omega);injection hh with e1 e2 e3
   subst e1;refine⟨g5,rfl,hW.chg.cell (p:=⟨g5,k,none⟩) (fun hκ=>?_) (hcl k (.string t) (by unfold rowTx;rw[List.getElem?_map,hk];rfl))⟩;have h1:=hp1.lt g5 hκ;have h2:=(own_obj hrow (g:=g5) rfl).1;omega
  have hgo:∀(W:World) (κ':Nat→Nat),Mv W5 W κ2 κ'→Mv w W κ κ':=fun W κ' hW=>(H1.out.2.1.trans (hp2.trans (Mv.below hb5 κ2))).trans hW
  have hsb2:v2.sb=v.sb++[(n,.slice none 0 0)]:=by rw[←hv2,←H1.out.2.2.2.1]
  obtain⟨O,hO⟩:∃O,stk.map (·.1)++[name]=O:=⟨_,rfl⟩;obtain⟨FIN,hFIN⟩:∃F,linesR src d O name 0 ls (beginS st name) []=F:=⟨_,rfl⟩;have hrd:readM src (d+1) (stk.map (·.1)) name text st=if FIN.1.over then FIN.1 else tellsM FIN.1 FIN.2:=by rw[readM_lines,hls,hO,hFIN]
  have HL:=hidH10 hcells hgo (hp1.below hb5) hsb2 hlls hnl hO hFIN hrd (HH.out.2.2.2.2.2.2.1);clear hcells hgo hsb2 hlls hnl hls hp1 hp2 hrow hκ2 hv2 HP HW3 HLn hb5 hrd hO hFIN
  go_wp2_with fail
  go_loopg [57] nl (fun q i wr=>∃(k:Nat) (κ':Nat→Nat) (v':Rv) (st':Ast) (cs':List Cd) (rv':Value),k+q=nl∧i=.int .i64 (k:Int)∧Hid (v'.sb=v.sb++[(n,rv')]∧ARd wr κ' rb wm sv v' st' (stk++[(name,cs')])∧Mv W5 wr κ2 κ'∧st'.over=false∧Lm 0 (cs'.length+j) st'∧linesR src d O name k (ls.drop k) st' cs'=FIN))
  case atStart=>exact⟨0,κ2,v2,beginS st name,[],.slice none 0 0,by omega,rfl,Lib.hid ⟨HL.out.2.2.2.1,HL.out.2.2.1,Mv.refl _ _,HL.out.2.2.2.2.2.2.2.2.2.2.1.trans HH.out.2.1,by simpa using HL.out.2.2.2.2.2.2.2.2.2.1,HL.out.2.2.2.2.2.2.2.1⟩⟩
  case round =>
   obtain⟨k,κ',v',st',cs',rv',hk,rfl,HR⟩:=hrel
   by_cases hlt:k<nl
   ·obtain⟨t,ht⟩:∃t,ls[k]? = some t:=⟨_,List.getElem?_eq_getElem (by have:=HL.out.2.2.2.2.2.1;omega)⟩;obtain⟨g5,rfl,q0⟩:=HL.out.1 wr κ' HR.out.2.2.1 k t ht;have htl:t.size≤100000:=HL.out.2.2.2.2.1 t (List.mem_of_getElem? ht);have hdr:ls.drop k=t::ls.drop (k+1):=by
     obtain⟨hkl,he⟩:=List.getElem?_eq_some_iff.1 ht;rw[List.drop_eq_getElem_cons hkl,he]
    have hfin:=HR.out.2.2.2.2.2;rw[hdr] at hfin;have hB:=(Below.refl wr.heap.size wr).alloc (Nat.le_refl _) (.cells #[.string name,.int .i64 ((k:Int)+1),.string t] 163);have hA6:=HR.out.2.1.below hB;have hbx:=Holds.new wr 163 #[.string name,.int .i64 ((k:Int)+1),.string t];have hrw:rb<wr.heap.size:=HR.out.2.1.hold.lt;obtain⟨W6,hW6⟩:∃W6,wr.alloc (.cells #[.string name,.int .i64 ((k:Int)+1),.string t] 163)=W6:=⟨_,rfl⟩;obtain⟨p6,hp6⟩:∃p6,wr.heap.size=p6:=⟨_,rfl⟩;rw[hW6] at hB hA6 hbx;rw[hp6] at hbx hrw;have d0:=hbx.cell 0;have d1:=hbx.cell 1;have d2:=hbx.cell 2;have c4:=hA6.hold.cell 4;have f4:=hA6.hold.free 4;simp at d0 d1 d2 c4;have e1:IntKind.i64.wrap ((k:Int)+1)=(k:Int)+1:=IntWalk.i64_in _ (by omega);have hMv6:=Mv.below hB κ';have H6:=hidH6 hA6 hbx hMv6 hfin htl ht;have HX:=hidH2 hW6 hp6;clear hdr hfin hA6 hbx hMv6 htl ht hB;obtain⟨cn,hcn⟩:∃cn,st'.count=cn:=⟨_,rfl⟩;rw[hcn] at c4
    by_cases hcnt:16384≤cn
    ·have hci:(16384:Int)≤(cn:Int):=by omega
     have HC:=hidH2 hcn hcnt;clear hcn hcnt;have hd8:st'.diags.length≤1000000000:=by have h1:=HR.out.2.2.2.2.1.diags;have h2:=HR.out.2.2.2.2.1.cnt;rw[HR.out.2.2.2.1] at h1;simp at h1;omega
     go_wp2_with fail
     (try rw[HX.out.1])
     refine (a_tell H6.out.1 name t ((k:Int)+1) 6 ⟨#[]⟩ hd8).mono ?_;rintro e w9 ⟨rfl,κ9,dv9,hr9,hm9⟩;have H9:=hidH2 hr9 hm9;clear hr9 hm9 hW6 hp6;go_wp2;refine⟨rfl,?_⟩;have hfin:=H6.out.2.2.2.1;rw[linesR_long _ _ _ _ _ _ _ _ _ (by rw[HC.out.1];exact HC.out.2)] at hfin;have hrd:=HL.out.2.2.2.2.2.2.2.2.1;rw[←hfin,if_pos rfl] at hrd
     show ReadP _ w κ rb wm sv v stk (readM src (d+1) (stk.map (·.1)) name text st) _ w9
     rw[hrd];unfold ReadP;rw[if_pos rfl];exact⟨rfl,κ9,{ v' with dv:=dv9 },_,⟨H9.out.1.hold,H9.out.1.attrs,H9.out.1.done,H9.out.1.asked,H9.out.1.begun,H9.out.1.lines,H9.out.1.diags,H9.out.1.files,H9.out.1.opens,H9.out.1.len,H9.out.1.src,H9.out.1.words,H9.out.1.kR,H9.out.1.kW,H9.out.1.kD,H9.out.1.kA,H9.out.1.kB,H9.out.1.kAt,H9.out.1.kO,H9.out.1.kL,H9.out.1.kG,H9.out.1.kF,H9.out.1.lt,H9.out.1.three,H9.out.1.uD,H9.out.1.uA,H9.out.1.uB⟩,(HL.out.2.1 _ _ HR.out.2.2.1).trans (H6.out.2.2.1.trans H9.out.2)⟩
    ·have hci:(cn:Int)<16384:=by omega
     have e2:IntKind.i64.wrap ((cn:Int)+1)=(cn:Int)+1:=IntWalk.i64_in _ (by omega);have hcnt2:¬16384≤st'.count:=by rw[hcn];exact hcnt
     have hA6:=H6.out.1;have hS:=Chg.set W6 ⟨rb,4,none⟩ (.int .i64 ((cn:Int)+1));have hz7:(W6.setCell ⟨rb,4,none⟩ (.int .i64 ((cn:Int)+1))).heap.size=W6.heap.size:=by simp[World.setCell]
     have hR:Rest W6 (W6.setCell ⟨rb,4,none⟩ (.int .i64 ((cn:Int)+1))) κ' 1 κ':=⟨hS.mono (fun k _ hk=>.inl (by rw[show k=rb from hk];exact hA6.kR)),fun _ _=>rfl,fun k hk=>by rw[hz7];exact hA6.lt k hk⟩;have hh7:Holds (W6.setCell ⟨rb,4,none⟩ (.int .i64 ((cn:Int)+1))) rb tAr #[sv,v'.av,.map (some wm),v'.ov,.int .i64 ((st'.count+1:Nat):Int),.map (some v'.dm),.map (some v'.am),.map (some v'.bm),v'.lv,v'.dv,v'.fv]:=by
      have h:=hA6.hold.set 4 (.int .i64 ((cn:Int)+1));rw[←hcn] at h ⊢;exact h
     have hA7:=hA6.set_count hR hh7;have hM7:=hR.mv (by decide);have hX7:=H6.out.2.1.far (p:=⟨rb,4,none⟩) (by simp;omega) (.int .i64 ((cn:Int)+1));obtain⟨W7,hW7⟩:∃W7,W6.setCell ⟨rb,4,none⟩ (.int .i64 ((cn:Int)+1))=W7:=⟨_,rfl⟩;rw[hW7] at hA7 hM7 hX7;have b0:=hX7.cell 0;have b1:=hX7.cell 1;have b2:=hX7.cell 2;simp at b0 b1 b2;have hMw:=HL.out.2.1 _ _ HR.out.2.2.1;have hM67:Mv w W7 κ κ':=hMw.trans (H6.out.2.2.1.trans hM7);have hlm:=HR.out.2.2.2.2.1.one HR.out.2.2.2.1 hcnt2;have hold:∀k,k<w.heap.size→κ' k=κ k:=fun k hk=>hM67.same k hk
     have hC:=line_any (PC:=[⟨.iface 138 (.int .i64 1),false,false⟩]) (inc:=fun m u s=>readM src d (stk.map (·.1)++[name]) m u s) (src:=src) (j:=j) hA7 HR.out.1 HR.out.2.2.2.1 (TwoS.chg HH.out.2.2.1 hM67.chg (fun k hk e=>e (HH.out.2.2.2.1 k hk).2))
      (fun k hk=>⟨Nat.lt_of_lt_of_le (HH.out.2.2.2.1 k hk).1 hM67.chg.size,(hold k (HH.out.2.2.2.1 k hk).1).trans (HH.out.2.2.2.1 k hk).2⟩) hsn (by rw[HN.out.2.2.2];exact hn) hlm (HH.out.2.2.2.2.1.chg hM67.chg (fun k hk=>HH.out.1.three k hk)) ⟨name,(k:Int)+1,t⟩ H6.out.2.2.2.2.1 (fun hx=>okW_at (HOKL.out t (by rw[HLSE.out];exact List.mem_of_getElem? H6.out.2.2.2.2.2)) hx)
      (fun W rest u hr h16 hAW hMW hfs=>by
        have h:=HH.out.2.2.2.2.2.1 W κ' v' { st' with count:=st'.count+1 } (stk++[(name,cs')]) rest u (by simp) (by simpa using h16) (hM67.trans hMW) hAW HR.out.2.2.2.1 ⟨_,hlm.less (Nat.le_refl _)⟩ (by have:=hlm.files;omega) (by have:=hlm.begun;omega) hr hfs;rw[List.map_append] at h;exact h)
     rw[HL.out.2.2.2.2.2.2.1] at hC;unfold lnV at hC;have HC:=hidH4 hC hcnt2 hM7 hlm;have H7:=Lib.hid hW7;clear hcn hcnt hcnt2 hA6 hS hz7 hR hh7 hA7 hM7 hX7 hMw hM67 hlm hold hC
     go_wp2_with fail
     (try rw[HX.out.1])
     (try rw[H7.out])
     refine HC.out.1.mono ?_;intro e w9 hP;unfold LineP at hP
     by_cases ho:(lineR src d O ⟨name,(k:Int)+1,t⟩ { st' with count:=st'.count+1 } cs').1.over=true
     ·have hP2:=hP;rw[show (lineM (fun m u s=>readM src d O m u s) src O ⟨name,(k:Int)+1,t⟩ { st' with count:=st'.count+1 } cs')=lineR src d O ⟨name,(k:Int)+1,t⟩ { st' with count:=st'.count+1 } cs' from rfl,if_pos ho] at hP2;obtain⟨rfl,κ9,v9,stk9,hr9,hm9⟩:=hP2;have hfin:=H6.out.2.2.2.1;rw[linesR_over _ _ _ _ _ _ _ _ _ HC.out.2.1 ho] at hfin;have hrd:=HL.out.2.2.2.2.2.2.2.2.1;rw[←hfin,if_pos ho] at hrd;have H9:=hidH4 hr9 hm9 hrd ho;clear hr9 hm9 hfin hrd ho hP hW6 hp6 hW7;go_wp2;refine⟨rfl,?_⟩
      show ReadP _ w κ rb wm sv v stk (readM src (d+1) (stk.map (·.1)) name text st) _ w9
      rw[H9.out.2.2.1];unfold ReadP;rw[if_pos H9.out.2.2.2];exact⟨rfl,κ9,v9,stk9,H9.out.1,(HL.out.2.1 _ _ HR.out.2.2.1).trans (H6.out.2.2.1.trans (HC.out.2.2.1.trans H9.out.2.1))⟩
     ·have hP2:=hP;rw[show (lineM (fun m u s=>readM src d O m u s) src O ⟨name,(k:Int)+1,t⟩ { st' with count:=st'.count+1 } cs')=lineR src d O ⟨name,(k:Int)+1,t⟩ { st' with count:=st'.count+1 } cs' from rfl,if_neg ho] at hP2;obtain⟨rfl,κ9,v9,rv9,hv9,hr9,hm9⟩:=hP2;have hfin:=H6.out.2.2.2.1;rw[linesR_next _ _ _ _ _ _ _ _ _ HC.out.2.1 ho] at hfin;have hlm9:=line_lm (src:=src) (opens:=O) (inc:=fun m u s=>readM src d O m u s) (read_lm HH.out.2.2.2.2.2.2.2.1 d O) ⟨name,(k:Int)+1,t⟩ H6.out.2.2.2.2.1 (s:={ st' with count:=st'.count+1 }) (cs:=cs') (j:=j) HR.out.2.2.2.1 HC.out.2.2.2;rw[show (lineM (fun m u s=>readM src d O m u s) src O ⟨name,(k:Int)+1,t⟩ { st' with count:=st'.count+1 } cs')=lineR src d O ⟨name,(k:Int)+1,t⟩ { st' with count:=st'.count+1 } cs' from rfl,if_neg ho] at hlm9;have hov9:(lineR src d O ⟨name,(k:Int)+1,t⟩ { st' with count:=st'.count+1 } cs').1.over=false:=by simpa using ho
      have hMt:Mv W5 w9 κ2 κ9:=HR.out.2.2.1.trans (H6.out.2.2.1.trans (HC.out.2.2.1.trans hm9));have H9:=hidH6 hv9 hr9 hMt hov9 hlm9 hfin;clear hv9 hr9 hm9 hfin hlm9 hov9 ho hP hMt hW6 hp6 hW7
      go_wp2_with fail
      go_roundg (gk-1)
      case measure=>omega
      case rel=>exact⟨k+1,κ9,v9,_,_,rv9,by omega,by go_num,H9⟩
   ·obtain rfl:k=nl:=by omega
    have hfin:=HR.out.2.2.2.2.2;rw[List.drop_eq_nil_of_le (by rw[HL.out.2.2.2.2.2.1];exact Nat.le_refl _),linesR_nil] at hfin;have HF:=Lib.hid hfin;have c1:=(HR.out.2.1.last HR.out.1).hold.cell 1;simp at c1;obtain⟨A6,c6,hrv,_⟩:=own_rowL (HR.out.2.1.last HR.out.1).row;dsimp only at hrv;subst hrv;obtain⟨nc,hnc⟩:∃nc,cs'.length=nc:=⟨_,rfl⟩;rw[hnc] at c1;have hnc2:nc≤100000:=by have h1:=HR.out.2.2.2.2.1.diags;have h2:=HR.out.2.2.2.2.1.cnt;rw[HR.out.2.2.2.1] at h1;simp at h1;omega
    have HNC:=Lib.hid hnc;clear hfin hnc;clear hk hlt;obtain⟨wO,hwO⟩:∃x,x=wr:=⟨_,rfl⟩;subst hwO
    go_wp2_with fail
    go_loopg [92] nc (fun q i wr=>∃(k2:Nat) (κ9:Nat→Nat) (dv9:Value),k2+q=nc∧i=.int .i64 (k2:Int)∧Hid (ARd wr κ9 rb wm sv { v' with dv:=dv9 } (tellsM st' (cs'.take k2)) (stk++[(name,cs')])∧Mv wO wr κ' κ9))
    case atStart=>exact⟨0,κ',v'.dv,by omega,rfl,Lib.hid ⟨HR.out.2.1,Mv.refl _ _⟩⟩
    case round =>
     obtain⟨k2,κ9,dv9,hk2,rfl,HR2⟩:=hrel
     by_cases hlt2:k2<nc
     ·obtain⟨cd,hcd⟩:∃cd,cs'[k2]? = some cd:=⟨_,List.getElem?_eq_getElem (by have:=HNC.out;omega)⟩;obtain⟨g6,cap6,he6,hcl⟩:=cond_cell (HR2.out.1.last (v:={ v' with dv:=dv9 }) HR.out.1) hcd;injection he6 with e61 e62 e63
      subst e61;have p0:=hcl 0 _ rfl;have p1:=hcl 1 _ rfl;have p2:=hcl 2 _ rfl;have p3:=hcl 3 _ rfl;have p4:=hcl 4 _ rfl;have p5:=hcl 5 _ rfl;simp at p0;have hB:=(Below.refl wr.heap.size wr).alloc (Nat.le_refl _) (.cells #[.string cd.at'.file,.int .i64 cd.at'.no,.string cd.at'.text,.bool cd.first,.bool cd.second,.bool cd.other] 167);have hd8:(tellsM st' (cs'.take k2)).diags.length≤1000000000:=by
       rw[tellsM_diags,List.length_take];have h1:=HR.out.2.2.2.2.1.diags;have h2:=HR.out.2.2.2.2.1.cnt;rw[HR.out.2.2.2.1] at h1;simp at h1;omega
      have hT:=a_tell (HR2.out.1.below hB) cd.at'.file cd.at'.text cd.at'.no 4 ⟨#[]⟩ hd8;have HT:=hidH3 hT (Mv.below hB κ9) hcd;clear hT hB hd8 hcl e62 e63 hcd
      go_wp2_with (go_at_call 108;refine HT.out.1.mono ?_;rintro e w9 ⟨rfl,κ8,dv8,hr8,hm8⟩)
      go_roundg (gk-1)
      case measure=>omega
      case rel =>
       refine⟨k2+1,κ8,dv8,by omega,by go_num,Lib.hid ⟨?_,HR2.out.2.trans (HT.out.2.1.trans hm8)⟩⟩;rw[List.take_add_one,HT.out.2.2];exact (tellsM_snoc _ _ _) ▸ hr8
     ·obtain rfl:k2=nc:=by omega
      obtain⟨g7,cap7,hov7,_,hcap7⟩:=HR2.out.1.openAt (v:={ v' with dv:=dv9 }) HR.out.1;dsimp only at hov7;have c3:=HR2.out.1.hold.cell 3;have f3:=HR2.out.1.hold.free 3;simp at c3;rw[hov7,HN.out.2.2.2] at c3;rw[HN.out.2.2.2] at hcap7;have e1:IntKind.i64.wrap ((sl:Int)+1-1)=(sl:Int):=by
       rw[show (sl:Int)+1-1=sl by omega];exact IntWalk.i64_in _ (by omega)
      have e2:((sl:Int)+1-1)=(sl:Int):=by omega
      have e3:IntKind.i64.wrap (sl:Int)=(sl:Int):=IntWalk.i64_in _ (by omega);have hbd:Below wr.heap.size wr wr.drew:=(Below.refl _ wr).drew;have hpd:=pop_done (HR2.out.1.below hbd) (v:={ v' with dv:=dv9 }) HR.out.1 hov7;rw[HN.out.2.2.2] at hpd;have H9:=hidH2 hpd (HR2.out.2.trans (Mv.below hbd κ9));have hov9:(tellsM st' cs').over=false:=(tells_lm cs' st' j HR.out.2.2.2.1 HR.out.2.2.2.2.1).2;have hrd:=HL.out.2.2.2.2.2.2.2.2.1;rw[←HF.out,if_neg (by dsimp only;rw[HR.out.2.2.2.1];decide)] at hrd;have HZ:=hidH2 hov9 hrd;clear hpd hbd hov7 hov9 hrd hk2 hlt2
      go_wp2_with fail
      go_region
      go_wp2
      go_end0
      rw[HZ.out.2];have hA9:=H9.out.1.1;rw[List.take_of_length_le (by rw[HNC.out];exact Nat.le_refl _)] at hA9;exact ReadP.back HZ.out.1 rfl ⟨κ9,{ v' with ov:=.slice (some ⟨g7,0,none⟩) sl cap7,dv:=dv9,sb:=v.sb },rfl,hA9,(HL.out.2.1 _ _ HR.out.2.2.1).trans (H9.out.2.trans H9.out.1.2)⟩
end
end Go.Proofs.YtkdknllcllhpgaaGreatDoor
namespace Go.Proofs.YtkdknllcllhpgaaGreatDoor
open Go.RowKit
theorem catch_idle (w:World) :
  CallsD Tryz.prog 77 #[] .returning w fun e u' w'=>e=.returned (.tuple #[])∧u'=.returning∧w'=w:=by
 refine callsD_of_wpS Tryz.func77 rfl fun c₀ cs hu=>?_
 apply wpS_seq
 apply wpS_region
 simp[wpOpsS,go_sem,recoverD,hu,Tryz.ntmps77,Exit.thenS];refine wpS_of_wp ?_;go_wp2;cases c₀
 simp_all [bodyPostS,results,Tryz.results77]
theorem catch_over (w:World) :
  CallsD Tryz.prog 77 #[] (.panicking [⟨.iface 138 (.int .i64 1),false,false⟩]) w fun e u' w'=>e=.returned (.tuple #[])∧u'=.panicking [⟨.iface 138 (.int .i64 1),true,false⟩]∧w'=w:=by
 have hb:∀w,(binOp BinOp.neq 20 (.iface 138 (.int .i64 1)) (.iface 138 (.int .i64 1))).run Tryz.prog w=.ok (.bool false) w:=fun _=>by kernel_rfl
 refine callsD_of_wpS Tryz.func77 rfl fun c₀ cs hu=>?_
 apply wpS_seq
 apply wpS_region
 simp[wpOpsS,go_sem,recoverD,hu,Tryz.ntmps77,Exit.thenS];refine wpS_of_wp ?_;go_wp2;cases c₀
 simp_all [bodyPostS,results,Tryz.results77]
theorem run_of {p name text:Value}{w:World}{R:World→Prop} (h:Calls Tryz.prog 78 #[p,name,text] w fun e w'=>R w'∧(e=.returned (.tuple #[])∨e=.panicked [⟨.iface 138 (.int .i64 1),false,false⟩])) :
  Calls Tryz.prog 51 #[p,name,text] w fun e w'=>e=.returned (.tuple #[])∧R w':=by
 have H:=Lib.hid h;clear h
 go_enter_defers Tryz.func51,Tryz.ntmps51
 go_wp2_with fail
 refine H.out.mono ?_;rintro e w9 ⟨hR,rfl|rfl⟩
 focus
  go_wp2;refine leaves_cons (f:=77) (args:=#[]) (by simp) (by simp[go_sem]) ?_;refine (catch_idle _).mono ?_
 rotate_left
 focus
  show Leaves _ _ _ _ [_] (.panicking _) w9
  refine leaves_cons (f:=77) (args:=#[]) (by simp) (by simp[go_sem]) ?_;refine (catch_over _).mono ?_
 rotate_left
 all_goals
  rintro e u' w2 ⟨rfl,rfl,rfl⟩;refine⟨.tuple #[],?_,rfl,hR⟩;exact results_none rfl _ _ _
end Go.Proofs.YtkdknllcllhpgaaGreatDoor
namespace Go.Proofs.YtkdknllcllhpgaaGreatDoor
open Go.RowKit Go.Bd
theorem words_any (w:World) :
  Calls Tryz.prog 49 #[] w fun e w'=>e=.returned (.map (some w.heap.size))∧FsMap w' Tryz.prog tTx w.heap.size wordsF∧Below w.heap.size w w'∧w'.heap.size=w.heap.size+1:=by
 have hmm:=@run_makeMap Tryz.prog;have hm0:=FsMap.new w Tryz.prog 9;obtain⟨n,hn⟩:∃n,w.heap.size=n:=⟨_,rfl⟩;have hB0:Below w.heap.size w (w.alloc (.map #[] 0)):=(Below.refl _ w).alloc (Nat.le_refl _) _;have s0:(w.alloc (.map #[] 0)).heap.size=n+1:=by rw[World.size_alloc,hn]
 rw[hn] at hm0 hB0 ⊢;have l0:([]:List Fe).length≤0:=Nat.le_refl _;have u0:Uniq []:=List.Pairwise.nil;obtain⟨w1,r1,m1,c1,s1⟩:=hm0.store (T:=89) u0 str_under word_under (Nat.lt_of_le_of_lt l0 (by decide)) ⟨⟨#[64,105,102]⟩,(.agg #[.func (.func 71) #[] #[],.bool true]),[]⟩ (by show (3:Nat)≤maxLen;unfold maxLen;omega);have u1:=Uniq.put u0 ⟨⟨#[64,105,102]⟩,(.agg #[.func (.func 71) #[] #[],.bool true]),[]⟩;have l1:=Nat.le_trans (Nat.le_of_eq (put_length u0 ⟨⟨#[64,105,102]⟩,(.agg #[.func (.func 71) #[] #[],.bool true]),[]⟩)) (show _≤1 by split<;>omega);obtain⟨w2,r2,m2,c2,s2⟩:=m1.store (T:=89) u1 str_under word_under (Nat.lt_of_le_of_lt l1 (by decide)) ⟨⟨#[64,101,108,115,101]⟩,(.agg #[.func (.func 72) #[] #[],.bool true]),[]⟩ (by show (5:Nat)≤maxLen;unfold maxLen;omega);have u2:=Uniq.put u1 ⟨⟨#[64,101,108,115,101]⟩,(.agg #[.func (.func 72) #[] #[],.bool true]),[]⟩;have l2:=Nat.le_trans (Nat.le_of_eq (put_length u1 ⟨⟨#[64,101,108,115,101]⟩,(.agg #[.func (.func 72) #[] #[],.bool true]),[]⟩)) (show _≤2 by split<;>omega);obtain⟨w3,r3,m3,c3,s3⟩:=m2.store (T:=89) u2 str_under word_under (Nat.lt_of_le_of_lt l2 (by decide)) ⟨⟨#[64,101,110,100]⟩,(.agg #[.func (.func 73) #[] #[],.bool true]),[]⟩ (by show (4:Nat)≤maxLen;unfold maxLen;omega);have u3:=Uniq.put u2 ⟨⟨#[64,101,110,100]⟩,(.agg #[.func (.func 73) #[] #[],.bool true]),[]⟩;have l3:=Nat.le_trans (Nat.le_of_eq (put_length u2 ⟨⟨#[64,101,110,100]⟩,(.agg #[.func (.func 73) #[] #[],.bool true]),[]⟩)) (show _≤3 by split<;>omega);obtain⟨w4,r4,m4,c4,s4⟩:=m3.store (T:=89) u3 str_under word_under (Nat.lt_of_le_of_lt l3 (by decide)) ⟨⟨#[64,105,110,99,108,117,100,101]⟩,(.agg #[.func (.func 74) #[] #[],.bool false]),[]⟩ (by show (8:Nat)≤maxLen;unfold maxLen;omega)
 have u4:=Uniq.put u3 ⟨⟨#[64,105,110,99,108,117,100,101]⟩,(.agg #[.func (.func 74) #[] #[],.bool false]),[]⟩;have l4:=Nat.le_trans (Nat.le_of_eq (put_length u3 ⟨⟨#[64,105,110,99,108,117,100,101]⟩,(.agg #[.func (.func 74) #[] #[],.bool false]),[]⟩)) (show _≤4 by split<;>omega);obtain⟨w5,r5,m5,c5,s5⟩:=m4.store (T:=89) u4 str_under word_under (Nat.lt_of_le_of_lt l4 (by decide)) ⟨⟨#[64,115,101,116]⟩,(.agg #[.func (.func 75) #[] #[],.bool false]),[]⟩ (by show (4:Nat)≤maxLen;unfold maxLen;omega);have u5:=Uniq.put u4 ⟨⟨#[64,115,101,116]⟩,(.agg #[.func (.func 75) #[] #[],.bool false]),[]⟩;have l5:=Nat.le_trans (Nat.le_of_eq (put_length u4 ⟨⟨#[64,115,101,116]⟩,(.agg #[.func (.func 75) #[] #[],.bool false]),[]⟩)) (show _≤5 by split<;>omega);obtain⟨w6,r6,m6,c6,s6⟩:=m5.store (T:=89) u5 str_under word_under (Nat.lt_of_le_of_lt l5 (by decide)) ⟨⟨#[64,117,110,115,101,116]⟩,(.agg #[.func (.func 76) #[] #[],.bool false]),[]⟩ (by show (6:Nat)≤maxLen;unfold maxLen;omega);have u6:=Uniq.put u5 ⟨⟨#[64,117,110,115,101,116]⟩,(.agg #[.func (.func 76) #[] #[],.bool false]),[]⟩;have l6:=Nat.le_trans (Nat.le_of_eq (put_length u5 ⟨⟨#[64,117,110,115,101,116]⟩,(.agg #[.func (.func 76) #[] #[],.bool false]),[]⟩)) (show _≤6 by split<;>omega);have hes:putF (putF (putF (putF (putF (putF ([]) ⟨⟨#[64,105,102]⟩,(.agg #[.func (.func 71) #[] #[],.bool true]),[]⟩) ⟨⟨#[64,101,108,115,101]⟩,(.agg #[.func (.func 72) #[] #[],.bool true]),[]⟩) ⟨⟨#[64,101,110,100]⟩,(.agg #[.func (.func 73) #[] #[],.bool true]),[]⟩) ⟨⟨#[64,105,110,99,108,117,100,101]⟩,(.agg #[.func (.func 74) #[] #[],.bool false]),[]⟩) ⟨⟨#[64,115,101,116]⟩,(.agg #[.func (.func 75) #[] #[],.bool false]),[]⟩) ⟨⟨#[64,117,110,115,101,116]⟩,(.agg #[.func (.func 76) #[] #[],.bool false]),[]⟩=wordsF:=by
  have e:wordsF=[⟨⟨#[64,105,102]⟩,(.agg #[.func (.func 71) #[] #[],.bool true]),[]⟩,⟨⟨#[64,101,108,115,101]⟩,(.agg #[.func (.func 72) #[] #[],.bool true]),[]⟩,⟨⟨#[64,101,110,100]⟩,(.agg #[.func (.func 73) #[] #[],.bool true]),[]⟩,⟨⟨#[64,105,110,99,108,117,100,101]⟩,(.agg #[.func (.func 74) #[] #[],.bool false]),[]⟩,⟨⟨#[64,115,101,116]⟩,(.agg #[.func (.func 75) #[] #[],.bool false]),[]⟩,⟨⟨#[64,117,110,115,101,116]⟩,(.agg #[.func (.func 76) #[] #[],.bool false]),[]⟩]:=rfl;rw[e];simp[putF,delF,show (⟨#[64,105,102]⟩:ByteArray)≠⟨#[64,101,108,115,101]⟩ by decide,show (⟨#[64,105,102]⟩:ByteArray)≠⟨#[64,101,110,100]⟩ by decide,show (⟨#[64,105,102]⟩:ByteArray)≠⟨#[64,105,110,99,108,117,100,101]⟩ by decide,show (⟨#[64,105,102]⟩:ByteArray)≠⟨#[64,115,101,116]⟩ by decide,show (⟨#[64,105,102]⟩:ByteArray)≠⟨#[64,117,110,115,101,116]⟩ by decide,show (⟨#[64,101,108,115,101]⟩:ByteArray)≠⟨#[64,101,110,100]⟩ by decide,show (⟨#[64,101,108,115,101]⟩:ByteArray)≠⟨#[64,105,110,99,108,117,100,101]⟩ by decide,show (⟨#[64,101,108,115,101]⟩:ByteArray)≠⟨#[64,115,101,116]⟩ by decide,show (⟨#[64,101,108,115,101]⟩:ByteArray)≠⟨#[64,117,110,115,101,116]⟩ by decide,show (⟨#[64,101,110,100]⟩:ByteArray)≠⟨#[64,105,110,99,108,117,100,101]⟩ by decide,show (⟨#[64,101,110,100]⟩:ByteArray)≠⟨#[64,115,101,116]⟩ by decide,show (⟨#[64,101,110,100]⟩:ByteArray)≠⟨#[64,117,110,115,101,116]⟩ by decide,show (⟨#[64,105,110,99,108,117,100,101]⟩:ByteArray)≠⟨#[64,115,101,116]⟩ by decide,show (⟨#[64,105,110,99,108,117,100,101]⟩:ByteArray)≠⟨#[64,117,110,115,101,116]⟩ by decide,show (⟨#[64,115,101,116]⟩:ByteArray)≠⟨#[64,117,110,115,101,116]⟩ by decide]
 rw[hes] at m6;have hall:Chg (w.alloc (.map #[] 0)) w6 (fun b=>b=n):=((((c1.trans c2 (fun _ _ h=>h)).trans c3 (fun _ _ h=>h)).trans c4 (fun _ _ h=>h)).trans c5 (fun _ _ h=>h)).trans c6 (fun _ _ h=>h);have HM:=hidH3 m6 (hB0.trans (hall.toBelow (by omega) (fun k hk=>by omega))) (show w6.heap.size=n+1 by omega);have HN:=Lib.hid hn;clear u0 l0 u1 l1 u2 l2 u3 l3 u4 l4 u5 l5 u6 l6 m1 c1 s1 m2 c2 s2 m3 c3 s3 m4 c4 s4 m5 c5 s5 m6 c6 s6 hm0 hB0 s0 hes hall
 go_enter Tryz.func49,Tryz.ntmps49
 go_wp2
 go_ret
 exact⟨rfl,HM.out⟩
end Go.Proofs.YtkdknllcllhpgaaGreatDoor
