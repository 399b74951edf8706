/- part 12 -/
import Derived.Deep.QuietTactic
import Derived.BigQuiet
import Derived.Deep.AppendLies
import Derived.Test.YtkdknllcllhpgaaGreatDoorK0
import Derived.Test.YtkdknllcllhpgaaGreatDoorK1
import Derived.Test.YtkdknllcllhpgaaGreatDoorK5
import Derived.Test.YtkdknllcllhpgaaGreatDoorK10
import Derived.Test.YtkdknllcllhpgaaGreatDoorK11
set_option linter.unusedSimpArgs false
set_option linter.unusedVariables false
set_option maxHeartbeats 16000000
set_option maxRecDepth 100000
namespace Go.Proofs.YtkdknllcllhpgaaGreatDoor
open Go.RowKit Go.Bd
theorem Cell_info:(Tryz.prog.info? 158).map (fun i=>(i.zero,i.size,i.bytes))=some (some (.agg #[.slice none 0 0]),1,24):=by kernel_rfl
theorem Cell_size:(Tryz.prog.info? 158).map (·.size)=some 1:=by kernel_rfl
theorem make_Cell (n:Nat) (w:World) (hn:n≤1000000000):(Instr.makeSlice 131 (.int .i64 0) (.int .i64 n)).run Tryz.prog w=.ok (.slice (some ⟨w.heap.size,0,none⟩) 0 n) (w.alloc (.cells (madeCells #[.slice none 0 0] (n*1)) 158)):=by
 obtain⟨i0,hi,hz0,hz1,hz2⟩:=info_parts Cell_info;have h:=run_make (P:=Tryz.prog) w 131 158 i0 _ Tryz.underlying131 hi hz0 .i64 .i64 0 n (by omega) (by omega) (by rw[hz2];omega) (by omega);rw[hz1] at h;simpa [Value.cells] using h
theorem isize_Cell:∀(x:List Sp),szL x≤1048576→∀(v:Value) (w:World) (B:Nat),Forest w (· < B) v x→B≤w.heap.size →
  Calls Tryz.prog 47 #[v] w fun e w'=>e=.returned (.int .i64 (szL x:Int))∧Below B w w':=fun x hz v w B hF hB=>size_any _ x (Nat.le_refl _) hz v w B hF hB
theorem itwin_Cell:∀(x:List Sp),szL x≤1048576→∀(v:Value) (w:World) (B:Nat),Forest w (· < B) v x→B≤w.heap.size →
  Calls Tryz.prog 61 #[v] w fun e w'=>∃v',e=.returned v'∧Marked w' (fun b=>w.heap.size≤b∧b<w'.heap.size) v' x∧Below w.heap.size w w':=fun x hz v w B hF hB=>twin_any _ x (Nat.le_refl _) (by have:=many_szL x;omega) v w B hF hB
theorem ileft_Cell:∀(x:List Sp),szL x≤1048576→∀(t v:Value) (w:World) (B:Nat),Marked w (· < B) t x→Forest w (· < B) v x→B≤w.heap.size →
  Calls Tryz.prog 67 #[t,v] w fun e w'=>e=.returned (.bool true)∧Below B w w':=fun x hz t v w B hT hF hB=>left_any _ x (Nat.le_refl _) (by have:=many_szL x;omega) t v w B hT hF hB
theorem size1_Cell (x:List Sp) (hz:1+szL x≤1048576) (v:Value) (w:World) (B:Nat) (hF:Forest w (· < B) v x) (hB:B≤w.heap.size) :
  Calls Tryz.prog 150 #[.agg #[v]] w fun e w'=>e=.returned (.int .i64 ((1+szL x:Nat):Int))∧Below B w w':=by
 obtain⟨A,c,rfl,hc⟩:=Forest.len hF;have hal:=(Below.refl B w).alloc hB (.cells #[.slice A x.length c] 158);have ci:=isize_Cell x (by omega) _ _ B (Forest.stays.under hF hal (fun _ h=>h)) (by simp;omega);have HAL:=Lib.hid hal;generalize szL x=kz at ci hz ⊢;clear hF hal;generalize x.length=kl at ci hc HAL ⊢
 go_enter Tryz.func150,Tryz.ntmps150
 go_wp2_with fail
 refine ci.mono ?_;clear ci;rintro e w2 ⟨rfl,hb2⟩;have HB2:=Lib.hid (HAL.out.trans hb2);clear hb2;go_wp2
 go_ret
 exact⟨by first|rfl|(push_cast;rfl)|go_num,HB2.out⟩
theorem size_Cells (l:List (List Sp)) (hz:szX szL l≤1048576) (v:Value) (w:World) (B:Nat) (hF:CellsF w (· < B) v l) (hB:B≤w.heap.size) :
  Calls Tryz.prog 104 #[v] w fun e w'=>e=.returned (.int .i64 (szX szL l:Int))∧Below B w w':=by
 obtain⟨A,c,rfl,hc⟩:=RowF.len (R:=Forest) hF;have hlm:=szX_len szL l;have HF:=Lib.hid hF;clear hF;obtain⟨n,hn⟩:∃n,l.length=n:=⟨_,rfl⟩;obtain⟨mm,hmm⟩:∃mm,szX szL l=mm:=⟨_,rfl⟩;have HN:=Lib.hid hn;have HMM:=Lib.hid hmm;simp only[hn,hmm] at hc hlm hz HF ⊢;clear hn hmm
 go_enter Tryz.func104,Tryz.ntmps104
 go_wp2
 go_loopg [3,4] n (fun q vn vi wr=>∃k a:Nat,k+q=n∧vi=.int .i64 (k:Int)∧vn=.int .i64 (a:Int)∧a≤mm∧Hid (a+k=n+szX szL (l.take k)∧Below B w wr))
 case atStart=>exact⟨0,n,by omega,rfl,rfl,by omega,by simp[szX],Below.refl _ _⟩
 case round =>
  obtain⟨k,a,hk,rfl,rfl,ham,HR⟩:=hrel
  by_cases hlt:k<n
  ·obtain⟨x,hx⟩:∃x,l[k]? = some x:=⟨_,List.getElem?_eq_getElem (by rw[HN.out];exact hlt)⟩;obtain⟨b1,off,kv,rfl,hb1,hkF,p0⟩:=RowF.at (R:=Forest) HF.out hx;have hbl:=HR.out.2
   replace p0:=(hbl.cell (p:=⟨b1,off+k,none⟩) hb1).trans p0
   have hgt:=szX_get (s:=szL) hx;rw[HMM.out,HN.out] at hgt;have hrb:=hbl.size;have htk:=szX_take (s:=szL) hx;have hkF2:=Forest.stays.under hkF hbl (fun _ h=>h);obtain⟨kA,kc,rfl,_⟩:=Forest.len hkF;have ci:=size1_Cell x (by omega) _ wr B hkF2 (by omega);have hsum:a+(1+szL x)+(k+1)=n+szX szL (l.take (k+1)):=by have:=HR.out.1;omega
   have hbd:=szX_len szL (l.take k);rw[List.length_take,HN.out,Nat.min_eq_left (by omega)] at hbd;have HSM:=Lib.hid hsum;have ham2:a+(1+szL x)≤mm:=by have:=HR.out.1;omega
   have ham3:(a:Int)≤1048576:=by omega
   generalize hmk:1+szL x=mk at ci ham2 HSM;clear hx hkF hkF2 hbl htk hbd hgt hsum hmk
   go_wp2_with fail
   refine ci.mono ?_;clear ci;rintro e w2 ⟨rfl,hb2⟩;have HB2:=Lib.hid (HR.out.2.trans hb2);clear hb2;go_wp2
   go_roundg (gk-1)
   case measure=>omega
   case rel=>exact⟨k+1,a+mk,by omega,by go_num,by go_num,ham2,HSM.out,HB2.out⟩
  ·obtain rfl:k=n:=by omega
   have ha:a=mm:=by
    have h1:=HR.out.1;rw[List.take_of_length_le (by rw[HN.out];exact Nat.le_refl _),HMM.out] at h1;omega
   subst ha;go_wp2
   go_ret
   exact⟨rfl,HR.out.2⟩
theorem twin1_Cell (x:List Sp) (hz:szL x≤1048576) (v:Value) (w:World) (B:Nat) (hF:Forest w (· < B) v x) (hB:B≤w.heap.size) :
  Calls Tryz.prog 199 #[.agg #[v]] w fun e w'=>∃v',e=.returned (.agg #[v'])∧Marked w' (fun b=>w.heap.size≤b∧b<w'.heap.size) v' x∧Below w.heap.size w w':=by
 obtain⟨A,c,rfl,hc⟩:=Forest.len hF;obtain⟨w0,hw0⟩:∃w0,(w.alloc (.cells #[.slice A x.length c] 158)).alloc (.cells #[.slice none 0 0] 158)=w0:=⟨_,rfl⟩;have hb0:Below w.heap.size w w0:=by rw[←hw0];exact ((Below.refl _ _).alloc (Nat.le_refl _) _).alloc (by simp) _
 have hX:Holds w0 w.heap.size 158 #[.slice A x.length c]:=by rw[←hw0];exact (Holds.new w _ _).alloc _
 have hR:Holds w0 (w.heap.size+1) 158 #[.slice none 0 0]:=by
  rw[←hw0];have h:=Holds.new (w.alloc (.cells #[.slice A x.length c] 158)) 158 #[.slice none 0 0];rw[World.size_alloc] at h;exact h
 have hs0:w0.heap.size=w.heap.size+2:=by rw[←hw0];simp
 have HFO:=Lib.hid hF;have HB0:=Lib.hid hb0;have x0:=hX.cell 0;clear hF
 go_enter Tryz.func199,Tryz.ntmps199
 go_wp2_with fail
 clear hw0 hb0;have hc0:Forest w0 (· < B) (.slice A x.length c) x:=Forest.stays.under HFO.out (HB0.out.mono hB) (fun _ h=>h);refine (itwin_Cell x hz _ _ B hc0 (by omega)).mono ?_;rintro e w2 ⟨v',rfl,ht2,hb2⟩;have hsz2:=hb2.size;have hR2:=holdsUnder hR hb2;have HB2:=Lib.hid (HB0.out.trans (hb2.mono (by omega)));have HT2:=Lib.hid ht2;have hsh:∃tg tc,v'=.slice (some ⟨tg,0,none⟩) x.length tc:=by obtain⟨tg,tc,h⟩:=Marked.form ht2;first|exact⟨tg,tc,h.1⟩|(obtain⟨_,h,_⟩:=h;exact⟨tg,tc,h⟩)
 obtain⟨tg,tc,rfl⟩:=hsh;clear ht2 hb2 hX hR hc0 x0;have a0:=hR2.cell 0;have f0:=hR2.free 0;obtain⟨w9,hw9⟩:∃w9,w2.setCell ⟨w.heap.size+1,0,none⟩ (.slice (some ⟨tg,0,none⟩) x.length tc)=w9:=⟨_,rfl⟩;have hch:Chg w2 w9 (fun k=>k=w.heap.size+1):=by rw[←hw9];exact Chg.set w2 _ _
 have hR9:Holds w9 (w.heap.size+1) 158 #[.slice (some ⟨tg,0,none⟩) x.length tc]:=by rw[←hw9];exact hR2.set 0 _
 have HT9:=Lib.hid (Marked.stays.go (G:=fun b=>w.heap.size≤b∧b<w9.heap.size) HT2.out hch (fun b h=>⟨by have h1:=h.1;omega,Nat.lt_of_lt_of_le h.2 hch.size⟩) (fun b h e=>by have h1:=h.1;omega));have HB9:=Lib.hid (HB2.out.trans (hch.toBelow (by omega) (fun k e=>by omega)));clear hch hR2 HT2 HB2;go_wp2
 (try simp only[Exit.inBlock,Exit.then])
 refine bodyPost_ret (results_row rfl _ _ (w.heap.size+1) _ _ _ _ rfl hR9 Tryz.underlying158 rfl Cell_size) rfl ?_;exact⟨_,rfl,HT9.out,HB9.out⟩
theorem twin_Cells (l:List (List Sp)) (hz:szX szL l≤1048576) (v:Value) (w:World) (B:Nat) (hF:CellsF w (· < B) v l) (hB:B≤w.heap.size) :
  Calls Tryz.prog 148 #[v] w fun e w'=>∃v',e=.returned v'∧CellsM w' (fun b=>w.heap.size≤b∧b<w'.heap.size) v' l∧Below w.heap.size w w':=by
 obtain⟨A,c,rfl,hc⟩:=RowF.len (R:=Forest) hF;have hlm:=szX_len szL l;have HF:=Lib.hid hF;clear hF;obtain⟨n,hn⟩:∃n,l.length=n:=⟨_,rfl⟩;have HN:=Lib.hid hn;simp only[hn] at hc hlm HF ⊢;clear hn;have mf:=make_Cell (n+1) w (by omega);have hmz:=madeCells_size #[.slice none 0 0] ((n+1)*1);generalize madeCells #[.slice none 0 0] ((n+1)*1)=zc at mf hmz;have HZ:=Lib.hid hmz;rw[show (((n+1:Nat):Int))=(n:Int)+1 by push_cast;rfl] at mf;clear hmz;obtain⟨i0,hi0,hz0,hz1,hz2⟩:=info_parts Cell_info
 go_enter Tryz.func148,Tryz.ntmps148
 go_wp2;clear mf
 go_loopg [3,4] n (fun q vt vi wr=>∃k g cap:Nat,k+q=n∧vi=.int .i64 (k:Int)∧vt=.slice (some ⟨g,0,none⟩) k cap∧Hid (∃kvs,Tw1 Marked 158 w wr g cap k kvs l))
 case atStart =>
  refine⟨0,w.heap.size,n+1,by omega,rfl,rfl,[],rfl,⟨rfl,.inr ⟨w.heap.size,n+1,zc,rfl,Nat.le_refl _,heap_alloc_new w _,Nat.zero_le _,by unfold maxLen;omega,HZ.out,rfl⟩⟩,fun j x kv _ h=>by simp at h,⟨Nat.le_refl _,by simp⟩,(Below.refl _ _).alloc (Nat.le_refl _) _⟩
 case round =>
  obtain⟨k,g,cap,hk,rfl,rfl,HR⟩:=hrel;obtain⟨kvs,hst⟩:=HR.out;have hkc:=own_at hst.ho;have hrb:=hst.hb.size;obtain⟨hg1,hg2⟩:=hst.hg
  by_cases hlt:k<n
  ·obtain⟨x,hx⟩:∃x,l[k]? = some x:=⟨_,List.getElem?_eq_getElem (by rw[HN.out];exact hlt)⟩;obtain⟨b1,off,kv,rfl,hb1,hkF,p0⟩:=RowF.at (R:=Forest) HF.out hx;have hbl:=hst.hb.mono hB
   replace p0:=(hbl.cell (p:=⟨b1,off+k,none⟩) hb1).trans p0
   have hgt:=szX_get (s:=szL) hx;have hkF2:=Forest.stays.under hkF hbl (fun _ h=>h);obtain⟨kA,kc,rfl,_⟩:=Forest.len hkF;have ci:=twin1_Cell x (by omega) _ wr B hkF2 (by omega);have HST:=Lib.hid hst;have HX:=Lib.hid hx;clear hx hkF hkF2 hbl hst HR hgt
   go_wp2_with fail
   refine ci.mono ?_;clear ci;rintro e w2 ⟨v',rfl,ht2,hb2⟩;have hs2:=hb2.size;have hown2:=(Chg.below hb2 (fun _=>False)).owns HST.out.ho (fun _ _ h=>h);have HT2:=Lib.hid ht2;have HB2:=Lib.hid hb2;have hsh:∃tg tc,v'=.slice (some ⟨tg,0,none⟩) x.length tc:=by obtain⟨tg,tc,h⟩:=Marked.form ht2;first|exact⟨tg,tc,h.1⟩|(obtain⟨_,h,_⟩:=h;exact⟨tg,tc,h⟩)
   obtain⟨tg,tc,rfl⟩:=hsh;clear ht2 hb2
   go_wp2_with (at_builtin;refine wpList_append_lies _ rfl _ _ 131 rfl w.heap.size 158 i0 _ 1 24 Tryz.underlying131 hi0 hz0 hz1 hz2 rfl (by omega) (.slice (some ⟨g,0,none⟩) k cap) k kvs (by rfl) (hown2.alloc _) ⟨w2.heap.size,0,none⟩ 1 1 [.slice (some ⟨tg,0,none⟩) x.length tc] (by rfl) (by rfl) (World.news_of_block (cs:=#[.slice (some ⟨tg,0,none⟩) x.length tc]) (t:=158) (fr:=(0,0)) (heap_alloc_new w2 _)) (by simp[Value.oneCell']) (by omega) (by unfold maxLen;omega) (by omega) (by simp;omega) (w2.heap.size+1) (by simp) ?_;intro g1 cap1 w3 hown3 hgrow hat hlt3)
   have HN3:=Lib.hid (tw1_next Marked.stays HST.out HX.out HB2.out HT2.out hown3 hgrow hat hlt3);clear hown3 hgrow hat hlt3 hown2
   go_roundg (gk-1)
   case measure=>omega
   case rel=>exact⟨k+1,g1,cap1,by omega,by go_num,rfl,_,HN3.out⟩
  ·obtain rfl:k=n:=by omega
   have HST:=Lib.hid hst;have hown:=hst.ho;clear hst HR
   go_wp2_with (at_builtin;refine wpList_append_lies _ rfl _ _ 131 rfl w.heap.size 158 i0 _ 1 24 Tryz.underlying131 hi0 hz0 hz1 hz2 rfl (by omega) (.slice (some ⟨g,0,none⟩) k cap) k kvs (by rfl) ((hown.alloc _).alloc _) ⟨wr.heap.size+1,0,none⟩ 1 1 [.slice (some ⟨wr.heap.size,0,none⟩) 1 1] (by rfl) (by rfl) (World.news_of_block (cs:=#[.slice (some ⟨wr.heap.size,0,none⟩) 1 1]) (t:=158) (fr:=(0,0)) (by have h:=heap_alloc_new (wr.alloc (.cells #[.int .u8 0,.string ⟨#[115,112,97,114,101]⟩,.string ⟨#[]⟩,.string ⟨#[]⟩,.slice none 0 0] 129)) (.cells #[.slice (some ⟨wr.heap.size,0,none⟩) 1 1] 158);rw[World.size_alloc] at h;exact h)) (by simp[Value.oneCell']) (by omega) (by unfold maxLen;omega) (by omega) (by simp;omega) (wr.heap.size+1+1) (by simp) ?_;intro g1 cap1 w3 hown3 hgrow hat hlt3;have hcap3:=own_at hown3)
   have hq:markC w3 (fun b=>w.heap.size≤b∧b<w3.heap.size) (.slice (some ⟨wr.heap.size,0,none⟩) 1 1):=by
    have h0:=((Holds.new wr 129 #[.int .u8 0,.string ⟨#[115,112,97,114,101]⟩,.string ⟨#[]⟩,.string ⟨#[]⟩,.slice none 0 0]).alloc (.cells #[.slice (some ⟨wr.heap.size,0,none⟩) 1 1] 158));have h3:=(Chg.grown hgrow).holds (g:=wr.heap.size) (fun e=>by have h9:wr.heap.size=g:=Option.some.inj e;omega) h0;exact forest_txt h3 ⟨by omega,h3.lt⟩
   have HM3:=Lib.hid (tw1_last Marked.stays HST.out (by rw[HN.out]) (((Chg.refl wr _).alloc _).alloc _) hown3 hgrow (hat.imp id (fun e=>by rw[e];simp)) hlt3 hq);clear hq
   go_ret
   exact⟨_,rfl,by have h:=HM3.out.1;rw[HN.out] at h;exact h,HM3.out.2⟩
theorem left1_Cell (x:List Sp) (hz:szL x≤1048576) (t v:Value) (w:World) (B:Nat) (hT:Marked w (· < B) t x) (hF:Forest w (· < B) v x) (hB:B≤w.heap.size) :
  Calls Tryz.prog 200 #[.agg #[t],.agg #[v]] w fun e w'=>e=.returned (.bool true)∧Below B w w':=by
 obtain⟨A,c,rfl,hc⟩:=Forest.len hF;have hsh:∃tg tc,t=.slice (some ⟨tg,0,none⟩) x.length tc:=by obtain⟨tg,tc,h⟩:=Marked.form hT;first|exact⟨tg,tc,h.1⟩|(obtain⟨_,h,_⟩:=h;exact⟨tg,tc,h⟩)
 obtain⟨tg,tc,rfl⟩:=hsh;have hal:=((Below.refl B w).alloc hB (.cells #[.slice (some ⟨tg,0,none⟩) x.length tc] 158)).alloc (by simp;omega) (.cells #[.slice A x.length c] 158);have ci:=ileft_Cell x hz _ _ _ B (Marked.stays.under hT hal (fun _ h=>h)) (Forest.stays.under hF hal (fun _ h=>h)) (by simp;omega);have HAL:=Lib.hid hal;clear hT hF hal
 go_enter Tryz.func200,Tryz.ntmps200
 go_wp2_with fail
 refine ci.mono ?_;clear ci;rintro e w2 ⟨rfl,hb2⟩;have HB2:=Lib.hid (HAL.out.trans hb2);clear hb2;go_wp2
 go_ret
 exact⟨rfl,HB2.out⟩
theorem left_Cells (l:List (List Sp)) (hz:szX szL l≤1048576) (t v:Value) (w:World) (B:Nat) (hT:CellsM w (· < B) t l) (hF:CellsF w (· < B) v l) (hB:B≤w.heap.size) :
  Calls Tryz.prog 149 #[t,v] w fun e w'=>e=.returned (.bool true)∧Below B w w':=by
 obtain⟨A,c,rfl,hc⟩:=RowF.len (R:=Forest) hF;obtain⟨tg,tc,mkv,rfl,htc,htB,hmc,hmq,htx⟩:=RowM.form (M:=Marked) (Q:=markC) hT;have hlm:=szX_len szL l;have HF:=Lib.hid hF;have HT:=Lib.hid htx;have HMQ:=Lib.hid hmq;clear hF hT htx hmq;obtain⟨n,hn⟩:∃n,l.length=n:=⟨_,rfl⟩;have HN:=Lib.hid hn;simp only[hn] at hc hlm htc HF hmc ⊢;clear hn;have htB':tg<B:=htB;clear htB;have tcb:decide (tc≤n)=false:=decide_eq_false (by omega);have HMC:=Lib.hid hmc;clear hmc
 go_enter Tryz.func149,Tryz.ntmps149
 go_wp2
 go_loopg [5] n (fun q i wr=>∃k:Nat,k+q=n∧i=.int .i64 (k:Int)∧Hid (Below B w wr))
 case atStart=>exact⟨0,by omega,rfl,Below.refl _ _⟩
 case round =>
  obtain⟨k,hk,rfl,HR⟩:=hrel
  by_cases hlt:k<n
  ·obtain⟨x,hx⟩:∃x,l[k]? = some x:=⟨_,List.getElem?_eq_getElem (by rw[HN.out];exact hlt)⟩;obtain⟨b2,off2,kv2,rfl,hb2,hkG,q0⟩:=RowF.at (R:=Forest) HF.out hx;obtain⟨kv,hkT,p0⟩:=HT.out k x hx;have hbl:=HR.out;have hrb:=hbl.size
   replace p0:=(hbl.cell (p:=⟨tg,k,none⟩) htB').trans p0
   replace q0:=(hbl.cell (p:=⟨b2,off2+k,none⟩) hb2).trans q0
   have hgt:=szX_get (s:=szL) hx;have HKT:=Lib.hid (Marked.stays.under hkT hbl (fun _ h=>h));have HKG:=Lib.hid (Forest.stays.under hkG hbl (fun _ h=>h));obtain⟨kA,kc,rfl,_⟩:=Forest.len hkG;have hsh:∃sg sc,kv=.slice (some ⟨sg,0,none⟩) x.length sc:=by obtain⟨tg,tc,h⟩:=Marked.form hkT;first|exact⟨tg,tc,h.1⟩|(obtain⟨_,h,_⟩:=h;exact⟨tg,tc,h⟩)
   obtain⟨sg,sc,rfl⟩:=hsh;have hzx:szL x≤1048576:=by omega
   clear hx hkT hkG hbl hgt;go_wp2;refine wp_region_held_drew (S:=(fun w'=>w'.cell? ⟨tg,k,none⟩=some (.slice (some ⟨sg,0,none⟩) x.length sc)∧w'.cell? ⟨b2,off2+k,none⟩=some (.slice kA x.length kc))) (by kernel_rfl) ?_ (fun hHeld0=>?_)
   ·(try dsimp only)
    first|exact⟨p0,q0⟩|exact⟨r0,s0⟩
   refine tkHo 0 ?_;refine tkHo 1 ?_;refine tkHo 2 ?_;refine tkHo 3 ?_;refine tkHo 4 ?_;refine tkHo 5 ?_;refine tkHo 6 ?_;refine tkHo 7 ?_;refine rdyH [8] ?_;refine AllReadyH.cons rfl (fun K hK=>?_) AllReadyH.nil;go_simp;refine (left1_Cell x hzx _ _ wr.drew B (Marked.stays.go HKT.out ((Chg.refl wr (fun _=>False)).drew) (fun _ h=>h) (fun _ _ h=>h)) (Forest.stays.go HKG.out ((Chg.refl wr (fun _=>False)).drew) (fun _ h=>h) (fun _ _ h=>h)) (by first|omega|(show B≤wr.heap.size;omega))).mono ?_;rintro e w2 ⟨rfl,hb2'⟩;have HB2:=Lib.hid (((Below.refl B wr).drew).trans hb2');clear hb2';have r0:=(HB2.out.cell (p:=⟨tg,k,none⟩) (by omega)).trans p0;have s0:=(HB2.out.cell (p:=⟨b2,off2+k,none⟩) (by omega)).trans q0
   go_wp2_with fail
   refine hK.out _ _ ?_ (fun hHeld1=>?_)
   ·(try dsimp only)
    first|exact⟨p0,q0⟩|exact⟨r0,s0⟩
   clear hK K hHeld0
   (try go_frame)
   refine tkHo 9 ?_;refine wpAnyH_done (by kernel_rfl) ?_ _;go_wp2
   go_roundg (gk-1)
   case measure=>omega
   case rel=>exact⟨k+1,by omega,by go_num,HR.out.trans HB2.out⟩
  ·obtain rfl:k=n:=by omega
   have hbl:=HR.out;have hrb:=hbl.size;have m0:=(hbl.cell (p:=⟨tg,k,none⟩) htB').trans HMC.out;obtain⟨mA,mc,rfl,_⟩:=Forest.len HMQ.out;obtain⟨mb,moff,mkA,mkc,rfl,hmB,_,_,n1,_⟩:=HMQ.out.at (j:=0) (x:=txt spareB) rfl;have n1':wr.cell? ⟨mb,moff+1,none⟩=some (.string ⟨#[115,112,97,114,101]⟩):=(hbl.cell (p:=⟨mb,moff+1,none⟩) hmB).trans (by have h:=n1;simp only[Nat.zero_mul,Nat.add_zero] at h;exact h);simp only[List.length_cons,List.length_nil] at m0;have n2':=cellAlloc (.cells #[.slice (some ⟨mb,moff,none⟩) 1 mc] 158) n1';clear n1;clear hbl;go_wp2
   go_ret
   exact⟨by first|rfl|kernel_rfl,HR.out.alloc (by omega) _⟩
theorem Row_info:(Tryz.prog.info? 133).map (fun i=>(i.zero,i.size,i.bytes))=some (some (.agg #[.slice none 0 0]),1,24):=by kernel_rfl
theorem Row_size:(Tryz.prog.info? 133).map (·.size)=some 1:=by kernel_rfl
theorem make_Row (n:Nat) (w:World) (hn:n≤1000000000):(Instr.makeSlice 70 (.int .i64 0) (.int .i64 n)).run Tryz.prog w=.ok (.slice (some ⟨w.heap.size,0,none⟩) 0 n) (w.alloc (.cells (madeCells #[.slice none 0 0] (n*1)) 133)):=by
 obtain⟨i0,hi,hz0,hz1,hz2⟩:=info_parts Row_info;have h:=run_make (P:=Tryz.prog) w 70 133 i0 _ Tryz.underlying70 hi hz0 .i64 .i64 0 n (by omega) (by omega) (by rw[hz2];omega) (by omega);rw[hz1] at h;simpa [Value.cells] using h
theorem isize_Row:∀(x:List (List Sp)),(szX szL) x≤1048576→∀(v:Value) (w:World) (B:Nat),CellsF w (· < B) v x→B≤w.heap.size →
  Calls Tryz.prog 104 #[v] w fun e w'=>e=.returned (.int .i64 ((szX szL) x:Int))∧Below B w w':=size_Cells
theorem itwin_Row:∀(x:List (List Sp)),(szX szL) x≤1048576→∀(v:Value) (w:World) (B:Nat),CellsF w (· < B) v x→B≤w.heap.size →
  Calls Tryz.prog 148 #[v] w fun e w'=>∃v',e=.returned v'∧CellsM w' (fun b=>w.heap.size≤b∧b<w'.heap.size) v' x∧Below w.heap.size w w':=twin_Cells
theorem ileft_Row:∀(x:List (List Sp)),(szX szL) x≤1048576→∀(t v:Value) (w:World) (B:Nat),CellsM w (· < B) t x→CellsF w (· < B) v x→B≤w.heap.size →
  Calls Tryz.prog 149 #[t,v] w fun e w'=>e=.returned (.bool true)∧Below B w w':=left_Cells
theorem size1_Row (x:List (List Sp)) (hz:1+(szX szL) x≤1048576) (v:Value) (w:World) (B:Nat) (hF:CellsF w (· < B) v x) (hB:B≤w.heap.size) :
  Calls Tryz.prog 70 #[.agg #[v]] w fun e w'=>e=.returned (.int .i64 ((1+(szX szL) x:Nat):Int))∧Below B w w':=by
 obtain⟨A,c,rfl,hc⟩:=RowF.len (R:=Forest) hF;have hal:=(Below.refl B w).alloc hB (.cells #[.slice A x.length c] 133);have ci:=isize_Row x (by omega) _ _ B (CellsF.stays.under hF hal (fun _ h=>h)) (by simp;omega);have HAL:=Lib.hid hal;generalize (szX szL) x=kz at ci hz ⊢;clear hF hal;generalize x.length=kl at ci hc HAL ⊢
 go_enter Tryz.func70,Tryz.ntmps70
 go_wp2_with fail
 refine ci.mono ?_;clear ci;rintro e w2 ⟨rfl,hb2⟩;have HB2:=Lib.hid (HAL.out.trans hb2);clear hb2;go_wp2
 go_ret
 exact⟨by first|rfl|(push_cast;rfl)|go_num,HB2.out⟩
theorem size_Rows (l:List (List (List Sp))) (hz:szX (szX szL) l≤1048576) (v:Value) (w:World) (B:Nat) (hF:RowsF w (· < B) v l) (hB:B≤w.heap.size) :
  Calls Tryz.prog 48 #[v] w fun e w'=>e=.returned (.int .i64 (szX (szX szL) l:Int))∧Below B w w':=by
 obtain⟨A,c,rfl,hc⟩:=RowF.len (R:=CellsF) hF;have hlm:=szX_len (szX szL) l;have HF:=Lib.hid hF;clear hF;obtain⟨n,hn⟩:∃n,l.length=n:=⟨_,rfl⟩;obtain⟨mm,hmm⟩:∃mm,szX (szX szL) l=mm:=⟨_,rfl⟩;have HN:=Lib.hid hn;have HMM:=Lib.hid hmm;simp only[hn,hmm] at hc hlm hz HF ⊢;clear hn hmm
 go_enter Tryz.func48,Tryz.ntmps48
 go_wp2
 go_loopg [3,4] n (fun q vn vi wr=>∃k a:Nat,k+q=n∧vi=.int .i64 (k:Int)∧vn=.int .i64 (a:Int)∧a≤mm∧Hid (a+k=n+szX (szX szL) (l.take k)∧Below B w wr))
 case atStart=>exact⟨0,n,by omega,rfl,rfl,by omega,by simp[szX],Below.refl _ _⟩
 case round =>
  obtain⟨k,a,hk,rfl,rfl,ham,HR⟩:=hrel
  by_cases hlt:k<n
  ·obtain⟨x,hx⟩:∃x,l[k]? = some x:=⟨_,List.getElem?_eq_getElem (by rw[HN.out];exact hlt)⟩;obtain⟨b1,off,kv,rfl,hb1,hkF,p0⟩:=RowF.at (R:=CellsF) HF.out hx;have hbl:=HR.out.2
   replace p0:=(hbl.cell (p:=⟨b1,off+k,none⟩) hb1).trans p0
   have hgt:=szX_get (s:=(szX szL)) hx;rw[HMM.out,HN.out] at hgt;have hrb:=hbl.size;have htk:=szX_take (s:=(szX szL)) hx;have hkF2:=CellsF.stays.under hkF hbl (fun _ h=>h);obtain⟨kA,kc,rfl,_⟩:=RowF.len (R:=Forest) hkF;have ci:=size1_Row x (by omega) _ wr B hkF2 (by omega);have hsum:a+(1+(szX szL) x)+(k+1)=n+szX (szX szL) (l.take (k+1)):=by have:=HR.out.1;omega
   have hbd:=szX_len (szX szL) (l.take k);rw[List.length_take,HN.out,Nat.min_eq_left (by omega)] at hbd;have HSM:=Lib.hid hsum;have ham2:a+(1+(szX szL) x)≤mm:=by have:=HR.out.1;omega
   have ham3:(a:Int)≤1048576:=by omega
   generalize hmk:1+(szX szL) x=mk at ci ham2 HSM;clear hx hkF hkF2 hbl htk hbd hgt hsum hmk
   go_wp2_with fail
   refine ci.mono ?_;clear ci;rintro e w2 ⟨rfl,hb2⟩;have HB2:=Lib.hid (HR.out.2.trans hb2);clear hb2;go_wp2
   go_roundg (gk-1)
   case measure=>omega
   case rel=>exact⟨k+1,a+mk,by omega,by go_num,by go_num,ham2,HSM.out,HB2.out⟩
  ·obtain rfl:k=n:=by omega
   have ha:a=mm:=by
    have h1:=HR.out.1;rw[List.take_of_length_le (by rw[HN.out];exact Nat.le_refl _),HMM.out] at h1;omega
   subst ha;go_wp2
   go_ret
   exact⟨rfl,HR.out.2⟩
theorem twin1_Row (x:List (List Sp)) (hz:(szX szL) x≤1048576) (v:Value) (w:World) (B:Nat) (hF:CellsF w (· < B) v x) (hB:B≤w.heap.size) :
  Calls Tryz.prog 99 #[.agg #[v]] w fun e w'=>∃v',e=.returned (.agg #[v'])∧CellsM w' (fun b=>w.heap.size≤b∧b<w'.heap.size) v' x∧Below w.heap.size w w':=by
 obtain⟨A,c,rfl,hc⟩:=RowF.len (R:=Forest) hF;obtain⟨w0,hw0⟩:∃w0,(w.alloc (.cells #[.slice A x.length c] 133)).alloc (.cells #[.slice none 0 0] 133)=w0:=⟨_,rfl⟩;have hb0:Below w.heap.size w w0:=by rw[←hw0];exact ((Below.refl _ _).alloc (Nat.le_refl _) _).alloc (by simp) _
 have hX:Holds w0 w.heap.size 133 #[.slice A x.length c]:=by rw[←hw0];exact (Holds.new w _ _).alloc _
 have hR:Holds w0 (w.heap.size+1) 133 #[.slice none 0 0]:=by
  rw[←hw0];have h:=Holds.new (w.alloc (.cells #[.slice A x.length c] 133)) 133 #[.slice none 0 0];rw[World.size_alloc] at h;exact h
 have hs0:w0.heap.size=w.heap.size+2:=by rw[←hw0];simp
 have HFO:=Lib.hid hF;have HB0:=Lib.hid hb0;have x0:=hX.cell 0;clear hF
 go_enter Tryz.func99,Tryz.ntmps99
 go_wp2_with fail
 clear hw0 hb0;have hc0:CellsF w0 (· < B) (.slice A x.length c) x:=CellsF.stays.under HFO.out (HB0.out.mono hB) (fun _ h=>h);refine (itwin_Row x hz _ _ B hc0 (by omega)).mono ?_;rintro e w2 ⟨v',rfl,ht2,hb2⟩;have hsz2:=hb2.size;have hR2:=holdsUnder hR hb2;have HB2:=Lib.hid (HB0.out.trans (hb2.mono (by omega)));have HT2:=Lib.hid ht2;have hsh:∃tg tc,v'=.slice (some ⟨tg,0,none⟩) x.length tc:=by obtain⟨tg,tc,h⟩:=RowM.form (M:=Marked) (Q:=markC) ht2;first|exact⟨tg,tc,h.1⟩|(obtain⟨_,h,_⟩:=h;exact⟨tg,tc,h⟩)
 obtain⟨tg,tc,rfl⟩:=hsh;clear ht2 hb2 hX hR hc0 x0;have a0:=hR2.cell 0;have f0:=hR2.free 0;obtain⟨w9,hw9⟩:∃w9,w2.setCell ⟨w.heap.size+1,0,none⟩ (.slice (some ⟨tg,0,none⟩) x.length tc)=w9:=⟨_,rfl⟩;have hch:Chg w2 w9 (fun k=>k=w.heap.size+1):=by rw[←hw9];exact Chg.set w2 _ _
 have hR9:Holds w9 (w.heap.size+1) 133 #[.slice (some ⟨tg,0,none⟩) x.length tc]:=by rw[←hw9];exact hR2.set 0 _
 have HT9:=Lib.hid (CellsM.stays.go (G:=fun b=>w.heap.size≤b∧b<w9.heap.size) HT2.out hch (fun b h=>⟨by have h1:=h.1;omega,Nat.lt_of_lt_of_le h.2 hch.size⟩) (fun b h e=>by have h1:=h.1;omega));have HB9:=Lib.hid (HB2.out.trans (hch.toBelow (by omega) (fun k e=>by omega)));clear hch hR2 HT2 HB2;go_wp2
 (try simp only[Exit.inBlock,Exit.then])
 refine bodyPost_ret (results_row rfl _ _ (w.heap.size+1) _ _ _ _ rfl hR9 Tryz.underlying133 rfl Row_size) rfl ?_;exact⟨_,rfl,HT9.out,HB9.out⟩
theorem twin_Rows (l:List (List (List Sp))) (hz:szX (szX szL) l≤1048576) (v:Value) (w:World) (B:Nat) (hF:RowsF w (· < B) v l) (hB:B≤w.heap.size) :
  Calls Tryz.prog 62 #[v] w fun e w'=>∃v',e=.returned v'∧RowsM w' (fun b=>w.heap.size≤b∧b<w'.heap.size) v' l∧Below w.heap.size w w':=by
 obtain⟨A,c,rfl,hc⟩:=RowF.len (R:=CellsF) hF;have hlm:=szX_len (szX szL) l;have HF:=Lib.hid hF;clear hF;obtain⟨n,hn⟩:∃n,l.length=n:=⟨_,rfl⟩;have HN:=Lib.hid hn;simp only[hn] at hc hlm HF ⊢;clear hn;have mf:=make_Row (n+1) w (by omega);have hmz:=madeCells_size #[.slice none 0 0] ((n+1)*1);generalize madeCells #[.slice none 0 0] ((n+1)*1)=zc at mf hmz;have HZ:=Lib.hid hmz;rw[show (((n+1:Nat):Int))=(n:Int)+1 by push_cast;rfl] at mf;clear hmz;obtain⟨i0,hi0,hz0,hz1,hz2⟩:=info_parts Row_info
 go_enter Tryz.func62,Tryz.ntmps62
 go_wp2;clear mf
 go_loopg [3,4] n (fun q vt vi wr=>∃k g cap:Nat,k+q=n∧vi=.int .i64 (k:Int)∧vt=.slice (some ⟨g,0,none⟩) k cap∧Hid (∃kvs,Tw1 CellsM 133 w wr g cap k kvs l))
 case atStart =>
  refine⟨0,w.heap.size,n+1,by omega,rfl,rfl,[],rfl,⟨rfl,.inr ⟨w.heap.size,n+1,zc,rfl,Nat.le_refl _,heap_alloc_new w _,Nat.zero_le _,by unfold maxLen;omega,HZ.out,rfl⟩⟩,fun j x kv _ h=>by simp at h,⟨Nat.le_refl _,by simp⟩,(Below.refl _ _).alloc (Nat.le_refl _) _⟩
 case round =>
  obtain⟨k,g,cap,hk,rfl,rfl,HR⟩:=hrel;obtain⟨kvs,hst⟩:=HR.out;have hkc:=own_at hst.ho;have hrb:=hst.hb.size;obtain⟨hg1,hg2⟩:=hst.hg
  by_cases hlt:k<n
  ·obtain⟨x,hx⟩:∃x,l[k]? = some x:=⟨_,List.getElem?_eq_getElem (by rw[HN.out];exact hlt)⟩;obtain⟨b1,off,kv,rfl,hb1,hkF,p0⟩:=RowF.at (R:=CellsF) HF.out hx;have hbl:=hst.hb.mono hB
   replace p0:=(hbl.cell (p:=⟨b1,off+k,none⟩) hb1).trans p0
   have hgt:=szX_get (s:=(szX szL)) hx;have hkF2:=CellsF.stays.under hkF hbl (fun _ h=>h);obtain⟨kA,kc,rfl,_⟩:=RowF.len (R:=Forest) hkF;have ci:=twin1_Row x (by omega) _ wr B hkF2 (by omega);have HST:=Lib.hid hst;have HX:=Lib.hid hx;clear hx hkF hkF2 hbl hst HR hgt
   go_wp2_with fail
   refine ci.mono ?_;clear ci;rintro e w2 ⟨v',rfl,ht2,hb2⟩;have hs2:=hb2.size;have hown2:=(Chg.below hb2 (fun _=>False)).owns HST.out.ho (fun _ _ h=>h);have HT2:=Lib.hid ht2;have HB2:=Lib.hid hb2;have hsh:∃tg tc,v'=.slice (some ⟨tg,0,none⟩) x.length tc:=by obtain⟨tg,tc,h⟩:=RowM.form (M:=Marked) (Q:=markC) ht2;first|exact⟨tg,tc,h.1⟩|(obtain⟨_,h,_⟩:=h;exact⟨tg,tc,h⟩)
   obtain⟨tg,tc,rfl⟩:=hsh;clear ht2 hb2
   go_wp2_with (at_builtin;refine wpList_append_lies _ rfl _ _ 70 rfl w.heap.size 133 i0 _ 1 24 Tryz.underlying70 hi0 hz0 hz1 hz2 rfl (by omega) (.slice (some ⟨g,0,none⟩) k cap) k kvs (by rfl) (hown2.alloc _) ⟨w2.heap.size,0,none⟩ 1 1 [.slice (some ⟨tg,0,none⟩) x.length tc] (by rfl) (by rfl) (World.news_of_block (cs:=#[.slice (some ⟨tg,0,none⟩) x.length tc]) (t:=133) (fr:=(0,0)) (heap_alloc_new w2 _)) (by simp[Value.oneCell']) (by omega) (by unfold maxLen;omega) (by omega) (by simp;omega) (w2.heap.size+1) (by simp) ?_;intro g1 cap1 w3 hown3 hgrow hat hlt3)
   have HN3:=Lib.hid (tw1_next CellsM.stays HST.out HX.out HB2.out HT2.out hown3 hgrow hat hlt3);clear hown3 hgrow hat hlt3 hown2
   go_roundg (gk-1)
   case measure=>omega
   case rel=>exact⟨k+1,g1,cap1,by omega,by go_num,rfl,_,HN3.out⟩
  ·obtain rfl:k=n:=by omega
   have HST:=Lib.hid hst;have hown:=hst.ho;clear hst HR
   go_wp2_with (at_builtin;refine wpList_append_lies _ rfl _ _ 70 rfl w.heap.size 133 i0 _ 1 24 Tryz.underlying70 hi0 hz0 hz1 hz2 rfl (by omega) (.slice (some ⟨g,0,none⟩) k cap) k kvs (by rfl) ((hown.alloc _).alloc _) ⟨wr.heap.size+1,0,none⟩ 1 1 [.slice (some ⟨wr.heap.size,0,none⟩) 9 9] (by rfl) (by rfl) (World.news_of_block (cs:=#[.slice (some ⟨wr.heap.size,0,none⟩) 9 9]) (t:=133) (fr:=(0,0)) (by have h:=heap_alloc_new (wr.alloc (.cells #[.slice none 0 0,.slice none 0 0,.slice none 0 0,.slice none 0 0,.slice none 0 0,.slice none 0 0,.slice none 0 0,.slice none 0 0,.slice none 0 0] 158)) (.cells #[.slice (some ⟨wr.heap.size,0,none⟩) 9 9] 133);rw[World.size_alloc] at h;exact h)) (by simp[Value.oneCell']) (by omega) (by unfold maxLen;omega) (by omega) (by simp;omega) (wr.heap.size+1+1) (by simp) ?_;intro g1 cap1 w3 hown3 hgrow hat hlt3;have hcap3:=own_at hown3)
   have hq:markR w3 (fun b=>w.heap.size≤b∧b<w3.heap.size) (.slice (some ⟨wr.heap.size,0,none⟩) 9 9):=⟨_,_,rfl⟩;have HM3:=Lib.hid (tw1_last CellsM.stays HST.out (by rw[HN.out]) (((Chg.refl wr _).alloc _).alloc _) hown3 hgrow (hat.imp id (fun e=>by rw[e];simp)) hlt3 hq);clear hq
   go_ret
   exact⟨_,rfl,by have h:=HM3.out.1;rw[HN.out] at h;exact h,HM3.out.2⟩
theorem left1_Row (x:List (List Sp)) (hz:(szX szL) x≤1048576) (t v:Value) (w:World) (B:Nat) (hT:CellsM w (· < B) t x) (hF:CellsF w (· < B) v x) (hB:B≤w.heap.size) :
  Calls Tryz.prog 103 #[.agg #[t],.agg #[v]] w fun e w'=>e=.returned (.bool true)∧Below B w w':=by
 obtain⟨A,c,rfl,hc⟩:=RowF.len (R:=Forest) hF;have hsh:∃tg tc,t=.slice (some ⟨tg,0,none⟩) x.length tc:=by obtain⟨tg,tc,h⟩:=RowM.form (M:=Marked) (Q:=markC) hT;first|exact⟨tg,tc,h.1⟩|(obtain⟨_,h,_⟩:=h;exact⟨tg,tc,h⟩)
 obtain⟨tg,tc,rfl⟩:=hsh;have hal:=((Below.refl B w).alloc hB (.cells #[.slice (some ⟨tg,0,none⟩) x.length tc] 133)).alloc (by simp;omega) (.cells #[.slice A x.length c] 133);have ci:=ileft_Row x hz _ _ _ B (CellsM.stays.under hT hal (fun _ h=>h)) (CellsF.stays.under hF hal (fun _ h=>h)) (by simp;omega);have HAL:=Lib.hid hal;clear hT hF hal
 go_enter Tryz.func103,Tryz.ntmps103
 go_wp2_with fail
 refine ci.mono ?_;clear ci;rintro e w2 ⟨rfl,hb2⟩;have HB2:=Lib.hid (HAL.out.trans hb2);clear hb2;go_wp2
 go_ret
 exact⟨rfl,HB2.out⟩
theorem left_Rows (l:List (List (List Sp))) (hz:szX (szX szL) l≤1048576) (t v:Value) (w:World) (B:Nat) (hT:RowsM w (· < B) t l) (hF:RowsF w (· < B) v l) (hB:B≤w.heap.size) :
  Calls Tryz.prog 68 #[t,v] w fun e w'=>e=.returned (.bool true)∧Below B w w':=by
 obtain⟨A,c,rfl,hc⟩:=RowF.len (R:=CellsF) hF;obtain⟨tg,tc,mkv,rfl,htc,htB,hmc,hmq,htx⟩:=RowM.form (M:=CellsM) (Q:=markR) hT;have hlm:=szX_len (szX szL) l;have HF:=Lib.hid hF;have HT:=Lib.hid htx;have HMQ:=Lib.hid hmq;clear hF hT htx hmq;obtain⟨n,hn⟩:∃n,l.length=n:=⟨_,rfl⟩;have HN:=Lib.hid hn;simp only[hn] at hc hlm htc HF hmc ⊢;clear hn;have htB':tg<B:=htB;clear htB;have tcb:decide (tc≤n)=false:=decide_eq_false (by omega);have HMC:=Lib.hid hmc;clear hmc
 go_enter Tryz.func68,Tryz.ntmps68
 go_wp2
 go_loopg [5] n (fun q i wr=>∃k:Nat,k+q=n∧i=.int .i64 (k:Int)∧Hid (Below B w wr))
 case atStart=>exact⟨0,by omega,rfl,Below.refl _ _⟩
 case round =>
  obtain⟨k,hk,rfl,HR⟩:=hrel
  by_cases hlt:k<n
  ·obtain⟨x,hx⟩:∃x,l[k]? = some x:=⟨_,List.getElem?_eq_getElem (by rw[HN.out];exact hlt)⟩;obtain⟨b2,off2,kv2,rfl,hb2,hkG,q0⟩:=RowF.at (R:=CellsF) HF.out hx;obtain⟨kv,hkT,p0⟩:=HT.out k x hx;have hbl:=HR.out;have hrb:=hbl.size
   replace p0:=(hbl.cell (p:=⟨tg,k,none⟩) htB').trans p0
   replace q0:=(hbl.cell (p:=⟨b2,off2+k,none⟩) hb2).trans q0
   have hgt:=szX_get (s:=(szX szL)) hx;have HKT:=Lib.hid (CellsM.stays.under hkT hbl (fun _ h=>h));have HKG:=Lib.hid (CellsF.stays.under hkG hbl (fun _ h=>h));obtain⟨kA,kc,rfl,_⟩:=RowF.len (R:=Forest) hkG;have hsh:∃sg sc,kv=.slice (some ⟨sg,0,none⟩) x.length sc:=by obtain⟨tg,tc,h⟩:=RowM.form (M:=Marked) (Q:=markC) hkT;first|exact⟨tg,tc,h.1⟩|(obtain⟨_,h,_⟩:=h;exact⟨tg,tc,h⟩)
   obtain⟨sg,sc,rfl⟩:=hsh;have hzx:(szX szL) x≤1048576:=by omega
   clear hx hkT hkG hbl hgt;go_wp2;refine wp_region_held_drew (S:=(fun w'=>w'.cell? ⟨tg,k,none⟩=some (.slice (some ⟨sg,0,none⟩) x.length sc)∧w'.cell? ⟨b2,off2+k,none⟩=some (.slice kA x.length kc))) (by kernel_rfl) ?_ (fun hHeld0=>?_)
   ·(try dsimp only)
    first|exact⟨p0,q0⟩|exact⟨r0,s0⟩
   refine tkHo 0 ?_;refine tkHo 1 ?_;refine tkHo 2 ?_;refine tkHo 3 ?_;refine tkHo 4 ?_;refine tkHo 5 ?_;refine tkHo 6 ?_;refine tkHo 7 ?_;refine rdyH [8] ?_;refine AllReadyH.cons rfl (fun K hK=>?_) AllReadyH.nil;go_simp;refine (left1_Row x hzx _ _ wr.drew B (CellsM.stays.go HKT.out ((Chg.refl wr (fun _=>False)).drew) (fun _ h=>h) (fun _ _ h=>h)) (CellsF.stays.go HKG.out ((Chg.refl wr (fun _=>False)).drew) (fun _ h=>h) (fun _ _ h=>h)) (by first|omega|(show B≤wr.heap.size;omega))).mono ?_;rintro e w2 ⟨rfl,hb2'⟩;have HB2:=Lib.hid (((Below.refl B wr).drew).trans hb2');clear hb2';have r0:=(HB2.out.cell (p:=⟨tg,k,none⟩) (by omega)).trans p0;have s0:=(HB2.out.cell (p:=⟨b2,off2+k,none⟩) (by omega)).trans q0
   go_wp2_with fail
   refine hK.out _ _ ?_ (fun hHeld1=>?_)
   ·(try dsimp only)
    first|exact⟨p0,q0⟩|exact⟨r0,s0⟩
   clear hK K hHeld0
   (try go_frame)
   refine tkHo 9 ?_;refine wpAnyH_done (by kernel_rfl) ?_ _;go_wp2
   go_roundg (gk-1)
   case measure=>omega
   case rel=>exact⟨k+1,by omega,by go_num,HR.out.trans HB2.out⟩
  ·obtain rfl:k=n:=by omega
   have hbl:=HR.out;have hrb:=hbl.size;have m0:=(hbl.cell (p:=⟨tg,k,none⟩) htB').trans HMC.out;obtain⟨mA,mc,rfl⟩:=HMQ.out;clear hbl;go_wp2
   go_ret
   exact⟨by first|rfl|kernel_rfl,HR.out.alloc (by omega) _⟩
theorem RowsF.form {w:World}{F:Nat→Prop}{v:Value}{l:List (List (List Sp))} (h:RowsF w F v l):∃A c,v=.slice A l.length c∧l.length≤c:=RowF.len (R:=CellsF) h
theorem RowsM.form {w:World}{F:Nat→Prop}{v:Value}{l:List (List (List Sp))} (h:RowsM w F v l):∃g c,v=.slice (some ⟨g,0,none⟩) l.length c:=by obtain⟨g,c,_,h,_⟩:=RowM.form (M:=CellsM) (Q:=markR) h;exact⟨g,c,h⟩
theorem Marked.shape {w:World}{F:Nat→Prop}{v:Value}{l:List Sp} (h:Marked w F v l):∃g c,v=.slice (some ⟨g,0,none⟩) l.length c:=by obtain⟨tg,tc,h⟩:=Marked.form h;first|exact⟨tg,tc,h.1⟩|(obtain⟨_,h,_⟩:=h;exact⟨tg,tc,h⟩)
theorem size1_Block (x:Bx) (hz:1+szBl x≤1048576) (sv rv:Value) (w:World) (B:Nat) (hF:Forest w (· < B) sv x.spans) (hR:RowsF w (· < B) rv x.rows) (hB:B≤w.heap.size) :
  Calls Tryz.prog 35 #[.agg #[.int .u8 (x.kind:Int),.int .i64 x.level,.bool x.ordered,.string x.label,.string x.text,sv,rv,.string x.file,.int .i64 x.line]] w fun e w'=>e=.returned (.int .i64 ((1+szBl x:Nat):Int))∧Below B w w':=by
 obtain⟨A,c,rfl,hc⟩:=Forest.len hF;obtain⟨R,d,rfl,hd⟩:=RowsF.form hR;have hal:=(Below.refl B w).alloc hB (.cells #[.int .u8 (x.kind:Int),.int .i64 x.level,.bool x.ordered,.string x.label,.string x.text,.slice A x.spans.length c,.slice R x.rows.length d,.string x.file,.int .i64 x.line] 72);obtain⟨w1,hw1⟩:∃w1,w.alloc (.cells #[.int .u8 (x.kind:Int),.int .i64 x.level,.bool x.ordered,.string x.label,.string x.text,.slice A x.spans.length c,.slice R x.rows.length d,.string x.file,.int .i64 x.line] 72)=w1:=⟨_,rfl⟩;rw[hw1] at hal;have hs1:w.heap.size<w1.heap.size:=by rw[←hw1];simp
 have hB1:B≤w1.heap.size:=by omega
 unfold szBl at hz ⊢;have ci:=size_any _ x.spans (Nat.le_refl _) (by omega) _ w1 w1.heap.size (Forest.stays.go (Forest.stays.under hF hal (fun _ h=>h)) (Chg.refl _ (fun _=>False)) (fun b (hb:b<B)=>Nat.lt_of_lt_of_le hb (by first|omega|exact HB1.out)) (fun _ _ h=>h)) (Nat.le_refl _);have HR:=Lib.hid (RowsF.stays.under hR hal (fun _ h=>h));have HAL:=Lib.hid hal;have hx:Holds w1 w.heap.size 72 #[.int .u8 (x.kind:Int),.int .i64 x.level,.bool x.ordered,.string x.label,.string x.text,.slice A x.spans.length c,.slice R x.rows.length d,.string x.file,.int .i64 x.line]:=by rw[←hw1];exact Holds.new w _ _
 have HX:=Lib.hid hx;have HB1:=Lib.hid hB1;have cr:=fun w2 (hb:Below w1.heap.size w1 w2)=>size_Rows x.rows (by omega) _ w2 B (RowsF.stays.under HR.out (hb.mono HB1.out) (fun _ h=>h)) (Nat.le_trans HB1.out hb.size)
 have CR:=Lib.hid cr;have d3:=hx.cell 3;have d4:=hx.cell 4;have d5:=hx.cell 5;have d6:=hx.cell 6;have d7:=hx.cell 7;clear hF hR hal hx cr HR hB1;generalize szL x.spans=kz at *;generalize szX (szX szL) x.rows=kr at *;generalize x.spans.length=kl at *;generalize x.rows.length=km at *
 go_enter Tryz.func35,Tryz.ntmps35
 go_wp2_with fail
 refine ci.mono ?_;clear ci;rintro e w2 ⟨rfl,hb2⟩;have d6':=(holdsUnder HX.out hb2).cell 6;have HB2:=Lib.hid (HAL.out.trans (hb2.mono HB1.out));have cr:=CR.out w2 hb2;clear hb2 d3 d4 d5 d6 d7
 go_wp2_with fail
 refine cr.mono ?_;clear cr;rintro e w3 ⟨rfl,hb3⟩;have HB3:=Lib.hid (HB2.out.trans hb3);clear hb3;go_wp2
 go_ret
 exact⟨by first|rfl|go_num|(push_cast;omega),HB3.out⟩
theorem size_Blocks (l:List Bx) (hz:szX szBl l≤1048576) (v:Value) (w:World) (B:Nat) (hF:BlocksX w B v l) (hB:B≤w.heap.size) :
  Calls Tryz.prog 18 #[v] w fun e w'=>e=.returned (.int .i64 (szX szBl l:Int))∧Below B w w':=by
 obtain⟨A,c,rfl,hc⟩:=BlocksX.form hF;have hlm:=szX_len szBl l;have HF:=Lib.hid hF;clear hF;obtain⟨n,hn⟩:∃n,l.length=n:=⟨_,rfl⟩;obtain⟨mm,hmm⟩:∃mm,szX szBl l=mm:=⟨_,rfl⟩;have HN:=Lib.hid hn;have HMM:=Lib.hid hmm;simp only[hn,hmm] at hc hlm hz HF ⊢;clear hn hmm
 go_enter Tryz.func18,Tryz.ntmps18
 go_wp2
 go_loopg [3,4] n (fun q vn vi wr=>∃k a:Nat,k+q=n∧vi=.int .i64 (k:Int)∧vn=.int .i64 (a:Int)∧a≤mm∧Hid (a+k=n+szX szBl (l.take k)∧Below B w wr))
 case atStart=>exact⟨0,n,by omega,rfl,rfl,by omega,by simp[szX],Below.refl _ _⟩
 case round =>
  obtain⟨k,a,hk,rfl,rfl,ham,HR⟩:=hrel
  by_cases hlt:k<n
  ·obtain⟨x,hx⟩:∃x,l[k]? = some x:=⟨_,List.getElem?_eq_getElem (by rw[HN.out];exact hlt)⟩;obtain⟨b1,off,sA,sc,rA,rc,rfl,hb1,hkF,hkR,p0,p1,p2,p3,p4,p5,p6,p7,p8⟩:=HF.out.at hx;have hbl:=HR.out.2
   replace p0:=(hbl.cell (p:=⟨b1,off+k*9,none⟩) hb1).trans p0
   replace p1:=(hbl.cell (p:=⟨b1,off+k*9+1,none⟩) hb1).trans p1
   replace p2:=(hbl.cell (p:=⟨b1,off+k*9+2,none⟩) hb1).trans p2
   replace p3:=(hbl.cell (p:=⟨b1,off+k*9+3,none⟩) hb1).trans p3
   replace p4:=(hbl.cell (p:=⟨b1,off+k*9+4,none⟩) hb1).trans p4
   replace p5:=(hbl.cell (p:=⟨b1,off+k*9+5,none⟩) hb1).trans p5
   replace p6:=(hbl.cell (p:=⟨b1,off+k*9+6,none⟩) hb1).trans p6
   replace p7:=(hbl.cell (p:=⟨b1,off+k*9+7,none⟩) hb1).trans p7
   replace p8:=(hbl.cell (p:=⟨b1,off+k*9+8,none⟩) hb1).trans p8
   have hgt:=szX_get (s:=szBl) hx;rw[HMM.out,HN.out] at hgt;have hrb:=hbl.size;have htk:=szX_take (s:=szBl) hx;have ci:=size1_Block x (by omega) _ _ wr B (Forest.stays.under hkF hbl (fun _ h=>h)) (RowsF.stays.under hkR hbl (fun _ h=>h)) (by omega);have hsum:a+(1+szBl x)+(k+1)=n+szX szBl (l.take (k+1)):=by have:=HR.out.1;omega
   have hbd:=szX_len szBl (l.take k);rw[List.length_take,HN.out,Nat.min_eq_left (by omega)] at hbd;have HSM:=Lib.hid hsum;have ham2:a+(1+szBl x)≤mm:=by have:=HR.out.1;omega
   have ham3:(a:Int)≤1048576:=by omega
   generalize hmk:1+szBl x=mk at ci ham2 HSM;clear hx hkF hkR hbl htk hbd hgt hsum hmk
   go_wp2_with fail
   refine ci.mono ?_;clear ci;rintro e w2 ⟨rfl,hb2⟩;have HB2:=Lib.hid (HR.out.2.trans hb2);clear hb2;go_wp2
   go_roundg (gk-1)
   case measure=>omega
   case rel=>exact⟨k+1,a+mk,by omega,by go_num,by go_num,ham2,HSM.out,HB2.out⟩
  ·obtain rfl:k=n:=by omega
   have ha:a=mm:=by
    have h1:=HR.out.1;rw[List.take_of_length_le (by rw[HN.out];exact Nat.le_refl _),HMM.out] at h1;omega
   subst ha;go_wp2
   go_ret
   exact⟨rfl,HR.out.2⟩
theorem left1_Block (x:Bx) (hz:szBl x≤1048576) (ts tr sv rv:Value) (w:World) (B:Nat) (hT:Marked w (· < B) ts x.spans) (hU:RowsM w (· < B) tr x.rows) (hF:Forest w (· < B) sv x.spans) (hR:RowsF w (· < B) rv x.rows) (hB:B≤w.heap.size) :
  Calls Tryz.prog 46 #[.agg #[.int .u8 (x.kind:Int),.int .i64 x.level,.bool x.ordered,.string x.label,.string x.text,ts,tr,.string x.file,.int .i64 x.line],.agg #[.int .u8 (x.kind:Int),.int .i64 x.level,.bool x.ordered,.string x.label,.string x.text,sv,rv,.string x.file,.int .i64 x.line]] w fun e w'=>e=.returned (.bool true)∧Below B w w':=by
 obtain⟨A,c,rfl,hc⟩:=Forest.len hF;obtain⟨R,d,rfl,hd⟩:=RowsF.form hR;obtain⟨tg,tc,rfl⟩:=Marked.shape hT;obtain⟨ug,uc,rfl⟩:=RowsM.form hU;obtain⟨w1,hw1⟩:∃w1,(w.alloc (.cells #[.int .u8 (x.kind:Int),.int .i64 x.level,.bool x.ordered,.string x.label,.string x.text,.slice (some ⟨tg,0,none⟩) x.spans.length tc,.slice (some ⟨ug,0,none⟩) x.rows.length uc,.string x.file,.int .i64 x.line] 72)).alloc (.cells #[.int .u8 (x.kind:Int),.int .i64 x.level,.bool x.ordered,.string x.label,.string x.text,.slice A x.spans.length c,.slice R x.rows.length d,.string x.file,.int .i64 x.line] 72)=w1:=⟨_,rfl⟩;have hal:Below B w w1:=by rw[←hw1];exact ((Below.refl B w).alloc hB _).alloc (by simp;omega) _
 have hs1:w1.heap.size=w.heap.size+2:=by rw[←hw1];simp
 have hB1:B≤w1.heap.size:=by omega
 have hz1:szL x.spans≤1048576:=by unfold szBl at hz;omega
 have hz2:szX (szX szL) x.rows≤1048576:=by unfold szBl at hz;omega
 have ci:=left_any _ x.spans (Nat.le_refl _) (by have:=many_szL x.spans;omega) _ _ w1 w1.heap.size (Marked.stays.go (Marked.stays.under hT hal (fun _ h=>h)) (Chg.refl _ (fun _=>False)) (fun b (hb:b<B)=>Nat.lt_of_lt_of_le hb (by first|omega|exact HB1.out)) (fun _ _ h=>h)) (Forest.stays.go (Forest.stays.under hF hal (fun _ h=>h)) (Chg.refl _ (fun _=>False)) (fun b (hb:b<B)=>Nat.lt_of_lt_of_le hb (by first|omega|exact HB1.out)) (fun _ _ h=>h)) (Nat.le_refl _);have hx:Holds w1 w.heap.size 72 #[.int .u8 (x.kind:Int),.int .i64 x.level,.bool x.ordered,.string x.label,.string x.text,.slice (some ⟨tg,0,none⟩) x.spans.length tc,.slice (some ⟨ug,0,none⟩) x.rows.length uc,.string x.file,.int .i64 x.line]:=by rw[←hw1];exact (Holds.new w _ _).alloc _
 have hy:Holds w1 (w.heap.size+1) 72 #[.int .u8 (x.kind:Int),.int .i64 x.level,.bool x.ordered,.string x.label,.string x.text,.slice A x.spans.length c,.slice R x.rows.length d,.string x.file,.int .i64 x.line]:=by
  rw[←hw1];have h:=Holds.new (w.alloc (.cells #[.int .u8 (x.kind:Int),.int .i64 x.level,.bool x.ordered,.string x.label,.string x.text,.slice (some ⟨tg,0,none⟩) x.spans.length tc,.slice (some ⟨ug,0,none⟩) x.rows.length uc,.string x.file,.int .i64 x.line] 72)) 72 #[.int .u8 (x.kind:Int),.int .i64 x.level,.bool x.ordered,.string x.label,.string x.text,.slice A x.spans.length c,.slice R x.rows.length d,.string x.file,.int .i64 x.line];rw[World.size_alloc] at h;exact h
 have HU:=Lib.hid (RowsM.stays.under hU hal (fun _ h=>h));have HR:=Lib.hid (RowsF.stays.under hR hal (fun _ h=>h));have HAL:=Lib.hid hal;have HXY:=hidH2 hx hy;have HB1:=Lib.hid hB1;have cr:=fun w2 (hb:Below w1.heap.size w1 w2)=>left_Rows x.rows hz2 _ _ w2 w1.heap.size (RowsM.stays.go (RowsM.stays.under HU.out (hb.mono HB1.out) (fun _ h=>h)) (Chg.refl _ (fun _=>False)) (fun b (hb:b<B)=>Nat.lt_of_lt_of_le hb (by first|omega|exact HB1.out)) (fun _ _ h=>h)) (RowsF.stays.go (RowsF.stays.under HR.out (hb.mono HB1.out) (fun _ h=>h)) (Chg.refl _ (fun _=>False)) (fun b (hb:b<B)=>Nat.lt_of_lt_of_le hb (by first|omega|exact HB1.out)) (fun _ _ h=>h)) hb.size
 have CR:=Lib.hid cr;have x0:=hx.cell 0;have x1:=hx.cell 1;have x2:=hx.cell 2;have x3:=hx.cell 3;have x4:=hx.cell 4;have x5:=hx.cell 5;have y0:=hy.cell 0;have y1:=hy.cell 1;have y2:=hy.cell 2;have y3:=hy.cell 3;have y4:=hy.cell 4;have y5:=hy.cell 5;clear hF hR hT hU hal hx hy cr HU HR hB1 hz hz1 hz2;generalize x.spans.length=kl at *;generalize x.rows.length=km at *
 go_enter Tryz.func46,Tryz.ntmps46
 go_wp2_with fail
 refine ci.mono ?_;clear ci x0 x1 x2 x3 x4 x5 y0 y1 y2 y3 y4 y5;rintro e w2 ⟨rfl,hb2⟩;have cr:=CR.out w2 hb2;have x6:=(holdsUnder HXY.out.1 hb2).cell 6;have y6:=(holdsUnder HXY.out.2 hb2).cell 6;have HB2:=Lib.hid hb2;clear hb2
 go_wp2_with fail
 refine cr.mono ?_;clear cr x6 y6;rintro e w3 ⟨rfl,hb3⟩;have hb4:=HB2.out.trans hb3;have x7:=(holdsUnder HXY.out.1 hb4).cell 7;have y7:=(holdsUnder HXY.out.2 hb4).cell 7;have x8:=(holdsUnder HXY.out.1 hb4).cell 8;have y8:=(holdsUnder HXY.out.2 hb4).cell 8;have HB4:=Lib.hid hb4;clear hb3 hb4;go_wp2
 go_ret
 exact⟨rfl,HAL.out.trans (HB4.out.mono HB1.out)⟩
theorem Block_info:(Tryz.prog.info? 72).map (fun i=>(i.zero,i.size,i.bytes))=some (some (.agg #[.int .u8 0,.int .i64 0,.bool false,.string ⟨#[]⟩,.string ⟨#[]⟩,.slice none 0 0,.slice none 0 0,.string ⟨#[]⟩,.int .i64 0]),9,128):=by kernel_rfl
theorem Block_size:(Tryz.prog.info? 72).map (·.size)=some 9:=by kernel_rfl
theorem make_Block (n:Nat) (w:World) (hn:n≤1000000000):(Instr.makeSlice 22 (.int .i64 0) (.int .i64 n)).run Tryz.prog w=.ok (.slice (some ⟨w.heap.size,0,none⟩) 0 n) (w.alloc (.cells (madeCells #[.int .u8 0,.int .i64 0,.bool false,.string ⟨#[]⟩,.string ⟨#[]⟩,.slice none 0 0,.slice none 0 0,.string ⟨#[]⟩,.int .i64 0] (n*9)) 72)):=by
 obtain⟨i0,hi,hz0,hz1,hz2⟩:=info_parts Block_info;have h:=run_make (P:=Tryz.prog) w 22 72 i0 _ Tryz.underlying22 hi hz0 .i64 .i64 0 n (by omega) (by omega) (by rw[hz2];omega) (by omega);rw[hz1] at h;simpa [Value.cells] using h
theorem cells9 {w:World}{g:Nat}{t:TypeId}{z0 z1 z2 z3 z4 z5 z6 z7 z8:Value} (h:Holds w g t #[z0,z1,z2,z3,z4,z5,z6,z7,z8]) :
  w.cell? ⟨g,0,none⟩=some z0∧w.cell? ⟨g,1,none⟩=some z1∧w.cell? ⟨g,2,none⟩=some z2∧w.cell? ⟨g,3,none⟩=some z3∧w.cell? ⟨g,4,none⟩=some z4∧w.cell? ⟨g,5,none⟩=some z5∧w.cell? ⟨g,6,none⟩=some z6∧w.cell? ⟨g,7,none⟩=some z7∧w.cell? ⟨g,8,none⟩=some z8 :=
 ⟨h.cell 0,h.cell 1,h.cell 2,h.cell 3,h.cell 4,h.cell 5,h.cell 6,h.cell 7,h.cell 8⟩
theorem holds_nine {w:World}{g:Nat}{t:TypeId}{z0 z1 z2 z3 z4 z5 z6 z7 z8 a b c d e f i j k:Value} (h:Holds w g t #[z0,z1,z2,z3,z4,z5,z6,z7,z8]) :
  Holds (((((((((w.setCell ⟨g,0,none⟩ a).setCell ⟨g,1,none⟩ b).setCell ⟨g,2,none⟩ c).setCell ⟨g,3,none⟩ d).setCell ⟨g,4,none⟩ e).setCell ⟨g,5,none⟩ f).setCell ⟨g,6,none⟩ i).setCell ⟨g,7,none⟩ j).setCell ⟨g,8,none⟩ k) g t #[a,b,c,d,e,f,i,j,k] :=
 by
  have h1:Holds (w.setCell ⟨g,0,none⟩ a) g t #[a,z1,z2,z3,z4,z5,z6,z7,z8]:=h.set 0 _;have h2:Holds ((w.setCell ⟨g,0,none⟩ a).setCell ⟨g,1,none⟩ b) g t #[a,b,z2,z3,z4,z5,z6,z7,z8]:=h1.set 1 _;have h3:Holds (((w.setCell ⟨g,0,none⟩ a).setCell ⟨g,1,none⟩ b).setCell ⟨g,2,none⟩ c) g t #[a,b,c,z3,z4,z5,z6,z7,z8]:=h2.set 2 _;have h4:Holds ((((w.setCell ⟨g,0,none⟩ a).setCell ⟨g,1,none⟩ b).setCell ⟨g,2,none⟩ c).setCell ⟨g,3,none⟩ d) g t #[a,b,c,d,z4,z5,z6,z7,z8]:=h3.set 3 _;have h5:Holds (((((w.setCell ⟨g,0,none⟩ a).setCell ⟨g,1,none⟩ b).setCell ⟨g,2,none⟩ c).setCell ⟨g,3,none⟩ d).setCell ⟨g,4,none⟩ e) g t #[a,b,c,d,e,z5,z6,z7,z8]:=h4.set 4 _;have h6:Holds ((((((w.setCell ⟨g,0,none⟩ a).setCell ⟨g,1,none⟩ b).setCell ⟨g,2,none⟩ c).setCell ⟨g,3,none⟩ d).setCell ⟨g,4,none⟩ e).setCell ⟨g,5,none⟩ f) g t #[a,b,c,d,e,f,z6,z7,z8]:=h5.set 5 _;have h7:Holds (((((((w.setCell ⟨g,0,none⟩ a).setCell ⟨g,1,none⟩ b).setCell ⟨g,2,none⟩ c).setCell ⟨g,3,none⟩ d).setCell ⟨g,4,none⟩ e).setCell ⟨g,5,none⟩ f).setCell ⟨g,6,none⟩ i) g t #[a,b,c,d,e,f,i,z7,z8]:=h6.set 6 _;have h8:Holds ((((((((w.setCell ⟨g,0,none⟩ a).setCell ⟨g,1,none⟩ b).setCell ⟨g,2,none⟩ c).setCell ⟨g,3,none⟩ d).setCell ⟨g,4,none⟩ e).setCell ⟨g,5,none⟩ f).setCell ⟨g,6,none⟩ i).setCell ⟨g,7,none⟩ j) g t #[a,b,c,d,e,f,i,j,z8]:=h7.set 7 _;have h9:Holds (((((((((w.setCell ⟨g,0,none⟩ a).setCell ⟨g,1,none⟩ b).setCell ⟨g,2,none⟩ c).setCell ⟨g,3,none⟩ d).setCell ⟨g,4,none⟩ e).setCell ⟨g,5,none⟩ f).setCell ⟨g,6,none⟩ i).setCell ⟨g,7,none⟩ j).setCell ⟨g,8,none⟩ k) g t #[a,b,c,d,e,f,i,j,k]:=h8.set 8 _
  exact h9
theorem chg_setB {w w':World}{S:Nat→Prop} (h:Chg w w' S) (p:Addr) (u:Value) (hp:S p.block):Chg w (w'.setCell p u) S:=h.trans (Chg.set w' p u) (fun k _ e=>by subst e;exact hp)
theorem name_worldB {α:Sort _}{K:α→World→Prop}{a:α}{W:World} (h:∀W',W'=W→K a W'):K a W:=h W rfl
theorem twin1_Block (x:Bx) (hz:szBl x≤1048576) (sv rv:Value) (w:World) (B:Nat) (hF:Forest w (· < B) sv x.spans) (hR:RowsF w (· < B) rv x.rows) (hB:B≤w.heap.size) :
  Calls Tryz.prog 40 #[.agg #[.int .u8 (x.kind:Int),.int .i64 x.level,.bool x.ordered,.string x.label,.string x.text,sv,rv,.string x.file,.int .i64 x.line]] w fun e w'=>∃kv:Value×Value,e=.returned (.agg #[.int .u8 (x.kind:Int),.int .i64 x.level,.bool x.ordered,.string x.label,.string x.text,kv.1,kv.2,.string x.file,.int .i64 x.line])∧(Marked w' (fun b=>w.heap.size≤b∧b<w'.heap.size) kv.1 x.spans∧RowsM w' (fun b=>w.heap.size≤b∧b<w'.heap.size) kv.2 x.rows)∧Below w.heap.size w w':=by
 obtain⟨A,c,rfl,hc⟩:=Forest.len hF;obtain⟨R,d,rfl,hd⟩:=RowsF.form hR;obtain⟨w0,hw0⟩:∃w0,(w.alloc (.cells #[.int .u8 (x.kind:Int),.int .i64 x.level,.bool x.ordered,.string x.label,.string x.text,.slice A x.spans.length c,.slice R x.rows.length d,.string x.file,.int .i64 x.line] 72)).alloc (.cells #[.int .u8 0,.int .i64 0,.bool false,.string ⟨#[]⟩,.string ⟨#[]⟩,.slice none 0 0,.slice none 0 0,.string ⟨#[]⟩,.int .i64 0] 72)=w0:=⟨_,rfl⟩;have hb0:Below w.heap.size w w0:=by rw[←hw0];exact ((Below.refl _ _).alloc (Nat.le_refl _) _).alloc (by simp) _
 have hX:Holds w0 w.heap.size 72 #[.int .u8 (x.kind:Int),.int .i64 x.level,.bool x.ordered,.string x.label,.string x.text,.slice A x.spans.length c,.slice R x.rows.length d,.string x.file,.int .i64 x.line]:=by rw[←hw0];exact (Holds.new w _ _).alloc _
 have hY:Holds w0 (w.heap.size+1) 72 #[.int .u8 0,.int .i64 0,.bool false,.string ⟨#[]⟩,.string ⟨#[]⟩,.slice none 0 0,.slice none 0 0,.string ⟨#[]⟩,.int .i64 0]:=by
  rw[←hw0];have h:=Holds.new (w.alloc (.cells #[.int .u8 (x.kind:Int),.int .i64 x.level,.bool x.ordered,.string x.label,.string x.text,.slice A x.spans.length c,.slice R x.rows.length d,.string x.file,.int .i64 x.line] 72)) 72 #[.int .u8 0,.int .i64 0,.bool false,.string ⟨#[]⟩,.string ⟨#[]⟩,.slice none 0 0,.slice none 0 0,.string ⟨#[]⟩,.int .i64 0];rw[World.size_alloc] at h;exact h
 have hs0:w0.heap.size=w.heap.size+2:=by rw[←hw0];simp
 have hz1:szL x.spans≤1048576:=by unfold szBl at hz;omega
 have hz2:szX (szX szL) x.rows≤1048576:=by unfold szBl at hz;omega
 have HFO:=Lib.hid (Forest.stays.under hF (hb0.mono hB) (fun _ h=>h));have HRO:=Lib.hid (RowsF.stays.under hR (hb0.mono hB) (fun _ h=>h));have HB0:=Lib.hid hb0;have HZ:=hidH2 hz1 hz2;clear hF hR hz hz1 hz2
 go_enter Tryz.func40,Tryz.ntmps40
 go_wp2;clear hw0 hb0;refine wp_region_held_drew (S:=(fun w'=>w'.cell? ⟨w.heap.size,0,none⟩=some (.int .u8 (x.kind:Int))∧w'.cell? ⟨w.heap.size,1,none⟩=some (.int .i64 x.level)∧w'.cell? ⟨w.heap.size,2,none⟩=some (.bool x.ordered)∧w'.cell? ⟨w.heap.size,3,none⟩=some (.string x.label)∧w'.cell? ⟨w.heap.size,4,none⟩=some (.string x.text)∧w'.cell? ⟨w.heap.size,5,none⟩=some (.slice A x.spans.length c)∧w'.cell? ⟨w.heap.size,6,none⟩=some (.slice R x.rows.length d)∧w'.cell? ⟨w.heap.size,7,none⟩=some (.string x.file)∧w'.cell? ⟨w.heap.size,8,none⟩=some (.int .i64 x.line))) (by kernel_rfl) ?_ (fun hHeld0=>?_)
 ·(try dsimp only)
  refine cells9 (t:=72) ?_
  repeat (first|with_reducible exact hX|with_reducible refine Holds.far ?_ hrx _|with_reducible refine Holds.alloc ?_ _|with_reducible refine Holds.drew ?_)
 refine tkH 0 3 ?_;refine tkH 1 4 ?_;refine tkH 2 5 ?_;refine tkH 3 6 ?_;refine tkH 4 7 ?_;refine tkH 5 8 ?_;refine tkH 6 9 ?_;refine tkH 7 10 ?_;refine tkH 8 11 ?_;refine tkH 9 12 ?_;refine tkH 10 13 ?_;refine tkH 11 14 ?_;refine tkH 13 16 ?_;refine tkH 14 17 ?_;refine tkH 16 19 ?_;refine tkH 17 20 ?_;refine tkH 18 21 ?_;refine tkH 19 22 ?_;refine rdyH [12] ?_;refine AllReadyH.cons (o:=⟨some 15,_,_,_,_,_⟩) rfl (fun K hK=>?_) AllReadyH.nil;go_simp;have hc0:Forest w0.drew (· < B) (.slice A x.spans.length c) x.spans:=Forest.stays.go HFO.out ((Chg.refl w0 (fun _=>False)).drew) (fun _ h=>h) (fun _ _ h=>h);have hr0:RowsF w0.drew (· < B) (.slice R x.rows.length d) x.rows:=RowsF.stays.go HRO.out ((Chg.refl w0 (fun _=>False)).drew) (fun _ h=>h) (fun _ _ h=>h);refine (twin_any _ x.spans (Nat.le_refl _) (by have:=many_szL x.spans;have:=HZ.out.1;omega) _ _ B hc0 (by show B≤w0.heap.size;omega)).mono ?_;rintro e w2 ⟨v',rfl,ht2,hb2⟩;have hsz2:w0.heap.size≤w2.heap.size:=hb2.size;have hX2:=holdsUnder (Holds.drew hX) hb2;have hY2:=holdsUnder (Holds.drew hY) hb2;have HB2:=Lib.hid ((HB0.out.drew).trans (hb2.mono (by show w.heap.size≤w0.heap.size;omega)));have HR2:=Lib.hid (RowsF.stays.under hr0 (hb2.mono (by show B≤w0.heap.size;omega)) (fun _ h=>h));have hrx:w.heap.size≠w.heap.size+1:=by omega
 clear hX hY hc0 hr0;have hX:=hX2;have hY:=hY2;clear hX2 hY2;obtain⟨tg,tc,rfl⟩:=Marked.shape ht2;have HT2:=Lib.hid ht2;clear ht2 hb2
 go_wp2_with fail
 refine hK.out _ _ ?_ (fun hHeld1=>?_)
 ·(try dsimp only)
  refine cells9 (t:=72) ?_
  repeat (first|with_reducible exact hX|with_reducible refine Holds.far ?_ hrx _|with_reducible refine Holds.alloc ?_ _|with_reducible refine Holds.drew ?_)
 clear hK K hHeld0
 (try go_frame)
 refine rdyH [15] ?_;refine AllReadyH.cons (o:=⟨some 18,_,_,_,_,_⟩) rfl (fun K hK=>?_) AllReadyH.nil
 (try go_simp)
 refine (twin_Rows x.rows HZ.out.2 _ w2 B HR2.out (by omega)).mono ?_;rintro e w3 ⟨u',rfl,hu3,hb3⟩;have hsz3:=hb3.size;have hX3:=holdsUnder hX hb3;have hY3:=holdsUnder hY hb3;have HB3:=Lib.hid (HB2.out.trans (hb3.mono (by omega)));have HT3:=Lib.hid (Marked.stays.under HT2.out hb3 (fun b h=>h.2));clear hX hY;have hX:=hX3;have hY:=hY3;clear hX3 hY3;obtain⟨ug,uc,rfl⟩:=RowsM.form hu3;have HU3:=Lib.hid hu3;clear hu3 hb3 HT2 HB2 HR2
 go_wp2_with fail
 refine hK.out _ _ ?_ (fun hHeld2=>?_)
 ·(try dsimp only)
  refine cells9 (t:=72) ?_
  repeat (first|with_reducible exact hX|with_reducible refine Holds.far ?_ hrx _|with_reducible refine Holds.alloc ?_ _|with_reducible refine Holds.drew ?_)
 clear hK K hHeld1
 (try go_frame)
 refine tkH 20 23 ?_;refine rdyH [21] ?_;refine AllReadyH.cons rfl (fun K hK=>?_) AllReadyH.nil;obtain⟨a0,a1,a2,a3,a4,a5,a6,a7,a8⟩:=cells9 hY;have f0:=hY.free 0;have f1:=hY.free 1;have f2:=hY.free 2;have f3:=hY.free 3;have f4:=hY.free 4;have f5:=hY.free 5;have f6:=hY.free 6;have f7:=hY.free 7;have f8:=hY.free 8;go_simp;refine name_worldB ?_;intro w9 hw9;have hch:Chg w3 w9 (fun k=>k=w.heap.size+1):=by
  rw[hw9]
  repeat (first|with_reducible exact Chg.refl _ _|with_reducible refine Chg.drew ?_|with_reducible refine chg_setB ?_ _ _ ?_|rfl)
 have hY9:Holds w9 (w.heap.size+1) 72 #[.int .u8 (x.kind:Int),.int .i64 x.level,.bool x.ordered,.string x.label,.string x.text,.slice (some ⟨tg,0,none⟩) x.spans.length tc,.slice (some ⟨ug,0,none⟩) x.rows.length uc,.string x.file,.int .i64 x.line]:=by
  rw[hw9]
  first|with_reducible exact holds_nine hY|with_reducible exact (holds_nine hY).drew
 have hX9:=hch.holds (g:=w.heap.size) (by omega) hX;have HT9:=Lib.hid (Marked.stays.go (G:=fun b=>w.heap.size≤b∧b<w9.heap.size) HT3.out hch (fun b h=>⟨by have h1:w0.heap.size≤b:=h.1;omega,Nat.lt_of_lt_of_le h.2 (Nat.le_trans hsz3 hch.size)⟩) (fun b h e=>by have h1:w0.heap.size≤b:=h.1;omega));have HU9:=Lib.hid (RowsM.stays.go (G:=fun b=>w.heap.size≤b∧b<w9.heap.size) HU3.out hch (fun b h=>⟨by have h1:w2.heap.size≤b:=h.1;omega,Nat.lt_of_lt_of_le h.2 hch.size⟩) (fun b h e=>by have h1:w2.heap.size≤b:=h.1;omega));have HB9:=Lib.hid (HB3.out.trans (hch.toBelow (by omega) (fun k e=>by omega)));clear a0 a1 a2 a3 a4 a5 a6 a7 a8 f0 f1 f2 f3 f4 f5 f6 f7 f8 hw9 hch hX hY HT3 HU3 HB3;have hX:=hX9;have hY:=hY9;clear hX9 hY9;refine hK.out _ _ ?_ (fun hHeld3=>?_)
 ·(try dsimp only)
  refine cells9 (t:=72) ?_
  repeat (first|with_reducible exact hX|with_reducible refine Holds.far ?_ hrx _|with_reducible refine Holds.alloc ?_ _|with_reducible refine Holds.drew ?_)
 clear hK K hHeld2
 (try go_frame)
 refine wpAnyH_done (by kernel_rfl) ?_ _;go_wp2
 (try simp only[Exit.inBlock,Exit.then])
 refine bodyPost_ret (results_row rfl _ _ (w.heap.size+1) _ _ _ _ rfl hY Tryz.underlying72 rfl Block_size) rfl ?_;exact⟨(_,_),rfl,⟨HT9.out,HU9.out⟩,HB9.out⟩
theorem left_Blocks (l:List Bx) (hz:szX szBl l≤1048576) (t v:Value) (w:World) (B:Nat) (hT:BlM w (· < B) t l) (hF:BlocksX w B v l) (hB:B≤w.heap.size) :
  Calls Tryz.prog 31 #[t,v] w fun e w'=>e=.returned (.bool true)∧Below B w w':=by
 obtain⟨A,c,rfl,hc⟩:=BlocksX.form hF;obtain⟨tg,tc,rfl,htc,htB,hmk⟩:=BlM.form hT;have hlm:=szX_len szBl l;have HF:=Lib.hid hF;have HT:=Lib.hid hT;have HMK:=Lib.hid hmk;clear hF hT hmk;obtain⟨n,hn⟩:∃n,l.length=n:=⟨_,rfl⟩;have HN:=Lib.hid hn;simp only[hn] at hc hlm htc HF HT HMK ⊢;clear hn;have htB':tg<B:=htB;clear htB;have tcb:decide (tc≤n)=false:=decide_eq_false (by omega)
 go_enter Tryz.func31,Tryz.ntmps31
 go_wp2
 go_loopg [5] n (fun q i wr=>∃k:Nat,k+q=n∧i=.int .i64 (k:Int)∧Hid (Below B w wr))
 case atStart=>exact⟨0,by omega,rfl,Below.refl _ _⟩
 case round =>
  obtain⟨k,hk,rfl,HR⟩:=hrel
  by_cases hlt:k<n
  ·obtain⟨x,hx⟩:∃x,l[k]? = some x:=⟨_,List.getElem?_eq_getElem (by rw[HN.out];exact hlt)⟩;obtain⟨b2,off2,sA,sc,rA,rc,rfl,hb2,hkF,hkR,q0,q1,q2,q3,q4,q5,q6,q7,q8⟩:=HF.out.at hx;obtain⟨⟨k1,k2⟩,hkT,hkU,hcl⟩:=BlM.at HT.out hx;obtain⟨tg2,tc2,rfl⟩:=Marked.shape hkT;obtain⟨ug2,uc2,rfl⟩:=RowsM.form hkU;have hbl:=HR.out;have hrb:=hbl.size;have p0:wr.cell? ⟨tg,k*9,none⟩=some (.int .u8 (x.kind:Int)):=(hbl.cell (p:=⟨tg,k*9,none⟩) htB').trans (hcl 0 _ rfl);have p1:wr.cell? ⟨tg,k*9+1,none⟩=some (.int .i64 x.level):=(hbl.cell (p:=⟨tg,k*9+1,none⟩) htB').trans (hcl 1 _ rfl);have p2:wr.cell? ⟨tg,k*9+2,none⟩=some (.bool x.ordered):=(hbl.cell (p:=⟨tg,k*9+2,none⟩) htB').trans (hcl 2 _ rfl);have p3:wr.cell? ⟨tg,k*9+3,none⟩=some (.string x.label):=(hbl.cell (p:=⟨tg,k*9+3,none⟩) htB').trans (hcl 3 _ rfl);have p4:wr.cell? ⟨tg,k*9+4,none⟩=some (.string x.text):=(hbl.cell (p:=⟨tg,k*9+4,none⟩) htB').trans (hcl 4 _ rfl);have p5:wr.cell? ⟨tg,k*9+5,none⟩=some (.slice (some ⟨tg2,0,none⟩) x.spans.length tc2):=(hbl.cell (p:=⟨tg,k*9+5,none⟩) htB').trans (hcl 5 _ rfl);have p6:wr.cell? ⟨tg,k*9+6,none⟩=some (.slice (some ⟨ug2,0,none⟩) x.rows.length uc2):=(hbl.cell (p:=⟨tg,k*9+6,none⟩) htB').trans (hcl 6 _ rfl);have p7:wr.cell? ⟨tg,k*9+7,none⟩=some (.string x.file):=(hbl.cell (p:=⟨tg,k*9+7,none⟩) htB').trans (hcl 7 _ rfl);have p8:wr.cell? ⟨tg,k*9+8,none⟩=some (.int .i64 x.line):=(hbl.cell (p:=⟨tg,k*9+8,none⟩) htB').trans (hcl 8 _ rfl)
   replace q0:=(hbl.cell (p:=⟨b2,off2+k*9,none⟩) hb2).trans q0
   replace q1:=(hbl.cell (p:=⟨b2,off2+k*9+1,none⟩) hb2).trans q1
   replace q2:=(hbl.cell (p:=⟨b2,off2+k*9+2,none⟩) hb2).trans q2
   replace q3:=(hbl.cell (p:=⟨b2,off2+k*9+3,none⟩) hb2).trans q3
   replace q4:=(hbl.cell (p:=⟨b2,off2+k*9+4,none⟩) hb2).trans q4
   replace q5:=(hbl.cell (p:=⟨b2,off2+k*9+5,none⟩) hb2).trans q5
   replace q6:=(hbl.cell (p:=⟨b2,off2+k*9+6,none⟩) hb2).trans q6
   replace q7:=(hbl.cell (p:=⟨b2,off2+k*9+7,none⟩) hb2).trans q7
   replace q8:=(hbl.cell (p:=⟨b2,off2+k*9+8,none⟩) hb2).trans q8
   have hgt:=szX_get (s:=szBl) hx;have hzx:szBl x≤1048576:=by omega
   have HKT:=hidH2 (Marked.stays.under hkT hbl (fun _ h=>h)) (RowsM.stays.under hkU hbl (fun _ h=>h));have HKG:=hidH2 (Forest.stays.under hkF hbl (fun _ h=>h)) (RowsF.stays.under hkR hbl (fun _ h=>h));clear hx hkT hkU hkF hkR hbl hcl hgt;go_wp2;refine wp_region_held_drew (S:=(fun w'=>w'.cell? ⟨tg,k*9,none⟩=some (.int .u8 (x.kind:Int))∧w'.cell? ⟨tg,k*9+1,none⟩=some (.int .i64 x.level)∧w'.cell? ⟨tg,k*9+2,none⟩=some (.bool x.ordered)∧w'.cell? ⟨tg,k*9+3,none⟩=some (.string x.label)∧w'.cell? ⟨tg,k*9+4,none⟩=some (.string x.text)∧w'.cell? ⟨tg,k*9+5,none⟩=some (.slice (some ⟨tg2,0,none⟩) x.spans.length tc2)∧w'.cell? ⟨tg,k*9+6,none⟩=some (.slice (some ⟨ug2,0,none⟩) x.rows.length uc2)∧w'.cell? ⟨tg,k*9+7,none⟩=some (.string x.file)∧w'.cell? ⟨tg,k*9+8,none⟩=some (.int .i64 x.line)∧w'.cell? ⟨b2,off2+k*9,none⟩=some (.int .u8 (x.kind:Int))∧w'.cell? ⟨b2,off2+k*9+1,none⟩=some (.int .i64 x.level)∧w'.cell? ⟨b2,off2+k*9+2,none⟩=some (.bool x.ordered)∧w'.cell? ⟨b2,off2+k*9+3,none⟩=some (.string x.label)∧w'.cell? ⟨b2,off2+k*9+4,none⟩=some (.string x.text)∧w'.cell? ⟨b2,off2+k*9+5,none⟩=some (.slice sA x.spans.length sc)∧w'.cell? ⟨b2,off2+k*9+6,none⟩=some (.slice rA x.rows.length rc)∧w'.cell? ⟨b2,off2+k*9+7,none⟩=some (.string x.file)∧w'.cell? ⟨b2,off2+k*9+8,none⟩=some (.int .i64 x.line))) (by kernel_rfl) ?_ (fun hHeld0=>?_)
   ·(try dsimp only)
    first|exact⟨p0,p1,p2,p3,p4,p5,p6,p7,p8,q0,q1,q2,q3,q4,q5,q6,q7,q8⟩|exact⟨r0,r1,r2,r3,r4,r5,r6,r7,r8,s0,s1,s2,s3,s4,s5,s6,s7,s8⟩
   refine tkH 0 25 ?_;refine tkH 1 26 ?_;refine tkH 2 27 ?_;refine tkH 3 28 ?_;refine tkH 4 29 ?_;refine tkH 5 30 ?_;refine tkH 6 31 ?_;refine tkH 7 32 ?_;refine rdyH [8] ?_;refine AllReadyH.cons (o:=⟨some 33,_,_,_,_,_⟩) rfl (fun K hK=>?_) AllReadyH.nil;go_simp;refine (left1_Block x hzx _ _ _ _ wr.drew B (Marked.stays.go HKT.out.1 ((Chg.refl wr (fun _=>False)).drew) (fun _ h=>h) (fun _ _ h=>h)) (RowsM.stays.go HKT.out.2 ((Chg.refl wr (fun _=>False)).drew) (fun _ h=>h) (fun _ _ h=>h)) (Forest.stays.go HKG.out.1 ((Chg.refl wr (fun _=>False)).drew) (fun _ h=>h) (fun _ _ h=>h)) (RowsF.stays.go HKG.out.2 ((Chg.refl wr (fun _=>False)).drew) (fun _ h=>h) (fun _ _ h=>h)) (by first|omega|(show B≤wr.heap.size;omega))).mono ?_;rintro e w2 ⟨rfl,hb2'⟩;have HB2:=Lib.hid (((Below.refl B wr).drew).trans hb2');clear hb2';have r0:=(HB2.out.cell (p:=⟨tg,k*9,none⟩) (by omega)).trans p0;have r1:=(HB2.out.cell (p:=⟨tg,k*9+1,none⟩) (by omega)).trans p1;have r2:=(HB2.out.cell (p:=⟨tg,k*9+2,none⟩) (by omega)).trans p2;have r3:=(HB2.out.cell (p:=⟨tg,k*9+3,none⟩) (by omega)).trans p3;have r4:=(HB2.out.cell (p:=⟨tg,k*9+4,none⟩) (by omega)).trans p4;have r5:=(HB2.out.cell (p:=⟨tg,k*9+5,none⟩) (by omega)).trans p5;have r6:=(HB2.out.cell (p:=⟨tg,k*9+6,none⟩) (by omega)).trans p6;have r7:=(HB2.out.cell (p:=⟨tg,k*9+7,none⟩) (by omega)).trans p7;have r8:=(HB2.out.cell (p:=⟨tg,k*9+8,none⟩) (by omega)).trans p8;have s0:=(HB2.out.cell (p:=⟨b2,off2+k*9,none⟩) (by omega)).trans q0;have s1:=(HB2.out.cell (p:=⟨b2,off2+k*9+1,none⟩) (by omega)).trans q1
   have s2:=(HB2.out.cell (p:=⟨b2,off2+k*9+2,none⟩) (by omega)).trans q2;have s3:=(HB2.out.cell (p:=⟨b2,off2+k*9+3,none⟩) (by omega)).trans q3;have s4:=(HB2.out.cell (p:=⟨b2,off2+k*9+4,none⟩) (by omega)).trans q4;have s5:=(HB2.out.cell (p:=⟨b2,off2+k*9+5,none⟩) (by omega)).trans q5;have s6:=(HB2.out.cell (p:=⟨b2,off2+k*9+6,none⟩) (by omega)).trans q6;have s7:=(HB2.out.cell (p:=⟨b2,off2+k*9+7,none⟩) (by omega)).trans q7;have s8:=(HB2.out.cell (p:=⟨b2,off2+k*9+8,none⟩) (by omega)).trans q8
   go_wp2_with fail
   refine hK.out _ _ ?_ (fun hHeld1=>?_)
   ·(try dsimp only)
    first|exact⟨p0,p1,p2,p3,p4,p5,p6,p7,p8,q0,q1,q2,q3,q4,q5,q6,q7,q8⟩|exact⟨r0,r1,r2,r3,r4,r5,r6,r7,r8,s0,s1,s2,s3,s4,s5,s6,s7,s8⟩
   clear hK K hHeld0
   (try go_frame)
   refine tkH 9 34 ?_;refine wpAnyH_done (by kernel_rfl) ?_ _;go_wp2
   go_roundg (gk-1)
   case measure=>omega
   case rel=>exact⟨k+1,by omega,by go_num,HR.out.trans HB2.out⟩
  ·obtain rfl:k=n:=by omega
   have hbl:=HR.out;have hrb:=hbl.size;have m0:wr.cell? ⟨tg,k*9,none⟩=some (.int .u8 0):=(hbl.cell (p:=⟨tg,k*9,none⟩) htB').trans (HMK.out 0 _ rfl);have m1:wr.cell? ⟨tg,k*9+1,none⟩=some (.int .i64 0):=(hbl.cell (p:=⟨tg,k*9+1,none⟩) htB').trans (HMK.out 1 _ rfl);have m2:wr.cell? ⟨tg,k*9+2,none⟩=some (.bool false):=(hbl.cell (p:=⟨tg,k*9+2,none⟩) htB').trans (HMK.out 2 _ rfl);have m3:wr.cell? ⟨tg,k*9+3,none⟩=some (.string ⟨#[]⟩):=(hbl.cell (p:=⟨tg,k*9+3,none⟩) htB').trans (HMK.out 3 _ rfl);have m4:wr.cell? ⟨tg,k*9+4,none⟩=some (.string ⟨#[115,112,97,114,101]⟩):=(hbl.cell (p:=⟨tg,k*9+4,none⟩) htB').trans (HMK.out 4 _ rfl);have m5:wr.cell? ⟨tg,k*9+5,none⟩=some (.slice none 0 0):=(hbl.cell (p:=⟨tg,k*9+5,none⟩) htB').trans (HMK.out 5 _ rfl);have m6:wr.cell? ⟨tg,k*9+6,none⟩=some (.slice none 0 0):=(hbl.cell (p:=⟨tg,k*9+6,none⟩) htB').trans (HMK.out 6 _ rfl);have m7:wr.cell? ⟨tg,k*9+7,none⟩=some (.string ⟨#[]⟩):=(hbl.cell (p:=⟨tg,k*9+7,none⟩) htB').trans (HMK.out 7 _ rfl);have m8:wr.cell? ⟨tg,k*9+8,none⟩=some (.int .i64 0):=(hbl.cell (p:=⟨tg,k*9+8,none⟩) htB').trans (HMK.out 8 _ rfl);clear hbl;go_wp2
   go_ret
   exact⟨by kernel_rfl,HR.out.alloc (by omega) _⟩
theorem flA_info:(Tryz.prog.info? 47).map (fun i=>(i.zero,i.size,i.bytes))=some (some (.agg #[.string ⟨#[]⟩,.string ⟨#[]⟩]),2,32):=by kernel_rfl
theorem flA_under:Tryz.prog.underlying 25=some (.slice 47):=by kernel_rfl
theorem flA_make (n:Nat) (w:World) (hn:n≤1000000000):(Instr.makeSlice 25 (.int .i64 0) (.int .i64 n)).run Tryz.prog w=.ok (.slice (some ⟨w.heap.size,0,none⟩) 0 n) (w.alloc (.cells (madeCells #[.string ⟨#[]⟩,.string ⟨#[]⟩] (n*2)) 47)):=by
 obtain⟨i0,hi,hz0,hz1,hz2⟩:=info_parts flA_info;have h:=run_make (P:=Tryz.prog) w 25 47 i0 _ flA_under hi hz0 .i64 .i64 0 n (by omega) (by omega) (by rw[hz2];omega) (by omega);rw[hz1] at h;simpa [Value.cells] using h
def markA:List Value:=[.string ⟨#[115,112,97,114,101]⟩,.string ⟨#[]⟩]
theorem twinAttrs_any {w:World}{v:Value}{l:List (ByteArray×ByteArray)} (h:FlatAt twC 2 w v l) (hl:l.length≤1048576) :
  Calls Tryz.prog 9 #[v] w fun e w'=>∃v',e=.returned v'∧FlatM twC 2 47 markA w.heap.size w' v' l∧Below w.heap.size w w':=by
 obtain⟨A,c,rfl,hc,h1⟩:=h;obtain⟨n,hn⟩:∃n,l.length=n:=⟨_,rfl⟩;rw[hn] at hl hc ⊢;have mf:=flA_make (n+1) w (by omega);have hmz:=(show ∀(z:Array Value) (m:Nat),(madeCells z m).size=m from fun z m=>by simp[madeCells]) #[.string ⟨#[]⟩,.string ⟨#[]⟩] ((n+1)*2);generalize madeCells #[.string ⟨#[]⟩,.string ⟨#[]⟩] ((n+1)*2)=zc at mf hmz;rw[show (((n+1:Nat):Int))=(n:Int)+1 by push_cast;rfl] at mf;obtain⟨i0,hi0,hz0,hz1,hz2⟩:=info_parts flA_info;have HI:=hidH4 hi0 hz0 hz1 hz2;have HN:=hidH3 hn h1 hmz;clear hn h1 hmz hi0 hz0 hz1 hz2
 go_enter Tryz.func9,Tryz.ntmps9
 go_wp2;clear mf
 go_loopg [3,4] n (fun q vt vi wr=>∃k g cap:Nat,k+q=n∧vi=.int .i64 (k:Int)∧vt=.slice (some ⟨g,0,none⟩) k cap∧Hid (wr.ownsRow w.heap.size 47 2 (.slice (some ⟨g,0,none⟩) k cap) k ((l.take k).flatMap twC)∧Below w.heap.size w wr))
 case atStart =>
  exact⟨0,w.heap.size,n+1,by omega,rfl,rfl,⟨rfl,.inr ⟨w.heap.size,n+1,zc,rfl,Nat.le_refl _,heap_alloc_new w _,Nat.zero_le _,by unfold maxLen;omega,HN.out.2.2,rfl⟩⟩,(Below.refl _ _).alloc (Nat.le_refl _) _⟩
 case round =>
  obtain⟨k,g,cap,hk,rfl,rfl,HR⟩:=hrel;have hrb:=HR.out.2.size
  by_cases hlt:k<n
  ·obtain⟨x,hx⟩:∃x,l[k]? = some x:=⟨_,List.getElem?_eq_getElem (by rw[HN.out.1];exact hlt)⟩;obtain⟨b,off,rfl,hcl⟩:=HN.out.2.1 k x hx;have HX:=Lib.hid (show (l.take (k+1)).flatMap twC=(l.take k).flatMap twC++twC x by rw[List.take_add_one,hx,List.flatMap_append];simp);have z0:wr.cell? ⟨b,off+k*2,none⟩=some (.string x.1):=by have h2:=hcl 0 _ rfl;(try simp only[Nat.mul_one,Nat.add_zero] at h2);exact (HR.out.2.cell (p:=⟨b,off+k*2,none⟩) (World.block_lt_of_cell? w _ h2)).trans h2
   have z1:wr.cell? ⟨b,off+k*2+1,none⟩=some (.string x.2):=by have h2:=hcl 1 _ rfl;(try simp only[Nat.mul_one,Nat.add_zero] at h2);exact (HR.out.2.cell (p:=⟨b,off+k*2+1,none⟩) (World.block_lt_of_cell? w _ h2)).trans h2
   obtain⟨a0,ha0⟩:∃a,x.1=a:=⟨_,rfl⟩;rw[ha0] at z0;obtain⟨a1,ha1⟩:∃a,x.2=a:=⟨_,rfl⟩;rw[ha1] at z1;have HC:=Lib.hid (show twC x=[.string a0,.string a1] by unfold twC;rw[ha0,ha1]);clear hx hcl ha0 ha1
   go_wp2_with (at_builtin;refine wpList_append_lies _ rfl _ _ 25 rfl w.heap.size 47 i0 _ 2 32 flA_under HI.out.1 HI.out.2.1 HI.out.2.2.1 HI.out.2.2.2 rfl (by omega) (.slice (some ⟨g,0,none⟩) k cap) k ((l.take k).flatMap twC) (by rfl) (HR.out.1.alloc _) ⟨wr.heap.size,0,none⟩ 1 1 [.string a0,.string a1] (by rfl) (by rfl) (World.news_of_block (cs:=#[.string a0,.string a1]) (t:=47) (fr:=(0,0)) (heap_alloc_new wr _)) (by simp[Value.oneCell']) (by omega) (by unfold maxLen;omega) (by omega) (by simp;omega) (wr.heap.size+1) (by simp) ?_;intro g1 cap1 w3 hown3 hgrow hat hlt3)
   have hb3:Below w.heap.size w w3:=(HR.out.2.alloc hrb _).trans ((Chg.grown hgrow).toBelow (by simp;omega) (fun j hj=>(HR.out.1.lt j hj.symm).1));have HE:=hidH2 (show w3.ownsRow w.heap.size 47 2 (.slice (some ⟨g1,0,none⟩) (k+1) cap1) (k+1) ((l.take (k+1)).flatMap twC) by rw[HX.out,HC.out];exact hown3) hb3;clear hown3 hgrow hat hlt3 hb3
   go_roundg (gk-1)
   case measure=>omega
   case rel=>exact⟨k+1,g1,cap1,by omega,by go_num,rfl,HE.out⟩
  ·obtain rfl:k=n:=by omega
   have hown:wr.ownsRow w.heap.size 47 2 (.slice (some ⟨g,0,none⟩) k cap) k (l.flatMap twC):=by
    have h2:=HR.out.1;rw[List.take_of_length_le (by rw[HN.out.1];exact Nat.le_refl _)] at h2;exact h2
   have HO:=hidH2 hown HR.out.2;clear hown
   go_wp2_with (at_builtin;refine wpList_append_lies _ rfl _ _ 25 rfl w.heap.size 47 i0 _ 2 32 flA_under HI.out.1 HI.out.2.1 HI.out.2.2.1 HI.out.2.2.2 rfl (by omega) (.slice (some ⟨g,0,none⟩) k cap) k (l.flatMap twC) (by rfl) (HO.out.1.alloc _) ⟨wr.heap.size,0,none⟩ 1 1 [.string ⟨#[115,112,97,114,101]⟩,.string ⟨#[]⟩] (by rfl) (by rfl) (World.news_of_block (cs:=#[.string ⟨#[115,112,97,114,101]⟩,.string ⟨#[]⟩]) (t:=47) (fr:=(0,0)) (heap_alloc_new wr _)) (by simp[Value.oneCell']) (by omega) (by unfold maxLen;omega) (by omega) (by simp;omega) (wr.heap.size+1) (by simp) ?_;intro g1 cap1 w3 hown3 hgrow hat hlt3;have hcap3:=fl_cap hown3)
   have hb3:Below w.heap.size w w3:=(HO.out.2.alloc hrb _).trans ((Chg.grown hgrow).toBelow (by simp;omega) (fun j hj=>(HO.out.1.lt j hj.symm).1));have HE:=hidH2 hown3 hb3;clear hown3 hgrow hat hlt3 hb3
   go_ret
   exact⟨_,rfl,⟨g1,cap1,by rw[HN.out.1];rfl,by rw[HN.out.1];exact HE.out.1⟩,HE.out.2⟩
theorem leftAttrs_any {w:World}{t v:Value}{l:List (ByteArray×ByteArray)}{b0:Nat} (ht:FlatM twC 2 47 markA b0 w t l) (h:FlatAt twC 2 w v l) (hl:l.length≤1048576) :
  Calls Tryz.prog 14 #[t,v] w fun e w'=>e=.returned (.bool true)∧Below w.heap.size w w':=by
 obtain⟨A,c,rfl,hc,h1⟩:=h;obtain⟨g,cap,rfl,ht2⟩:=ht;obtain⟨n,hn⟩:∃n,l.length=n:=⟨_,rfl⟩;rw[hn] at hl hc ht2 ⊢;have hcap:=fl_cap ht2;obtain⟨h2,h3⟩:=FlatM.at (f:=twC) (fun _=>rfl) ht2 hn;have s0:w.cell? ⟨g,n*2,none⟩=some (.string ⟨#[115,112,97,114,101]⟩):=by have h4:=h3 0 _ rfl;(try simp only[Nat.mul_one,Nat.add_zero] at h4);exact h4
 have s1:w.cell? ⟨g,n*2+1,none⟩=some (.string ⟨#[]⟩):=h3 1 _ rfl;have HN:=hidH3 hn h1 h2;have HS:=hidH2 s0 (s1);clear hn h1 h2 h3 ht2 s0 s1
 go_enter Tryz.func14,Tryz.ntmps14
 go_wp2
 go_loopg [5] n (fun q vi wr=>∃k:Nat,k+q=n∧vi=.int .i64 (k:Int)∧Hid (Below w.heap.size w wr))
 case atStart=>exact⟨0,by omega,rfl,Below.refl _ _⟩
 case round =>
  obtain⟨k,hk,rfl,HB⟩:=hrel
  by_cases hlt:k<n
  ·obtain⟨x,hx⟩:∃x,l[k]? = some x:=⟨_,List.getElem?_eq_getElem (by rw[HN.out.1];exact hlt)⟩;obtain⟨b,off,rfl,hcl⟩:=HN.out.2.1 k x hx;have hcg:=HN.out.2.2 k x hx;have z0:wr.cell? ⟨b,off+k*2,none⟩=some (.string x.1):=by have h2:=hcl 0 _ rfl;(try simp only[Nat.mul_one,Nat.add_zero] at h2);exact (HB.out.cell (p:=⟨b,off+k*2,none⟩) (World.block_lt_of_cell? w _ h2)).trans h2
   have y0:wr.cell? ⟨g,k*2,none⟩=some (.string x.1):=by have h2:=hcg 0 _ rfl;(try simp only[Nat.mul_one,Nat.add_zero] at h2);exact (HB.out.cell (p:=⟨g,k*2,none⟩) (World.block_lt_of_cell? w _ h2)).trans h2
   have z1:wr.cell? ⟨b,off+k*2+1,none⟩=some (.string x.2):=by have h2:=hcl 1 _ rfl;(try simp only[Nat.mul_one,Nat.add_zero] at h2);exact (HB.out.cell (p:=⟨b,off+k*2+1,none⟩) (World.block_lt_of_cell? w _ h2)).trans h2
   have y1:wr.cell? ⟨g,k*2+1,none⟩=some (.string x.2):=by have h2:=hcg 1 _ rfl;(try simp only[Nat.mul_one,Nat.add_zero] at h2);exact (HB.out.cell (p:=⟨g,k*2+1,none⟩) (World.block_lt_of_cell? w _ h2)).trans h2
   obtain⟨a0,ha0⟩:∃a,x.1=a:=⟨_,rfl⟩;rw[ha0] at z0 y0;obtain⟨a1,ha1⟩:∃a,x.2=a:=⟨_,rfl⟩;rw[ha1] at z1 y1;clear hx hcl hcg ha0 ha1;go_wp2
   go_quiet (fail)
   go_wp2;have hb2:=Below.trans HB.out (((Chg.refl wr (fun _=>False)).drewN nq).toBelow HB.out.size (fun _ h=>h.elim))
   go_roundg (gk-1)
   case measure=>omega
   case rel=>exact⟨k+1,by omega,by go_num,hb2⟩
  ·obtain rfl:k=n:=by omega
   have z0:=(HB.out.cell (p:=⟨g,k*2,none⟩) (World.block_lt_of_cell? w _ (HS.out.1))).trans (HS.out.1);have z1:=(HB.out.cell (p:=⟨g,k*2+1,none⟩) (World.block_lt_of_cell? w _ (HS.out.2))).trans (HS.out.2);go_wp2
   go_ret
   exact⟨by first|rfl|simp,by first|exact HB.out|exact HB.out.alloc HB.out.size _⟩
theorem flD_info:(Tryz.prog.info? 55).map (fun i=>(i.zero,i.size,i.bytes))=some (some (.agg #[.string ⟨#[]⟩,.int .i64 0,.int .i64 0,.string ⟨#[]⟩]),4,48):=by kernel_rfl
theorem flD_under:Tryz.prog.underlying 23=some (.slice 55):=by kernel_rfl
theorem flD_make (n:Nat) (w:World) (hn:n≤1000000000):(Instr.makeSlice 23 (.int .i64 0) (.int .i64 n)).run Tryz.prog w=.ok (.slice (some ⟨w.heap.size,0,none⟩) 0 n) (w.alloc (.cells (madeCells #[.string ⟨#[]⟩,.int .i64 0,.int .i64 0,.string ⟨#[]⟩] (n*4)) 55)):=by
 obtain⟨i0,hi,hz0,hz1,hz2⟩:=info_parts flD_info;have h:=run_make (P:=Tryz.prog) w 23 55 i0 _ flD_under hi hz0 .i64 .i64 0 n (by omega) (by omega) (by rw[hz2];omega) (by omega);rw[hz1] at h;simpa [Value.cells] using h
def markD:List Value:=[.string ⟨#[115,112,97,114,101]⟩,.int .i64 0,.int .i64 0,.string ⟨#[]⟩]
theorem twinDiags_any {w:World}{v:Value}{l:List Dx} (h:FlatAt dxCells 4 w v l) (hl:l.length≤1048576) :
  Calls Tryz.prog 23 #[v] w fun e w'=>∃v',e=.returned v'∧FlatM dxCells 4 55 markD w.heap.size w' v' l∧Below w.heap.size w w':=by
 obtain⟨A,c,rfl,hc,h1⟩:=h;obtain⟨n,hn⟩:∃n,l.length=n:=⟨_,rfl⟩;rw[hn] at hl hc ⊢;have mf:=flD_make (n+1) w (by omega);have hmz:=(show ∀(z:Array Value) (m:Nat),(madeCells z m).size=m from fun z m=>by simp[madeCells]) #[.string ⟨#[]⟩,.int .i64 0,.int .i64 0,.string ⟨#[]⟩] ((n+1)*4);generalize madeCells #[.string ⟨#[]⟩,.int .i64 0,.int .i64 0,.string ⟨#[]⟩] ((n+1)*4)=zc at mf hmz;rw[show (((n+1:Nat):Int))=(n:Int)+1 by push_cast;rfl] at mf;obtain⟨i0,hi0,hz0,hz1,hz2⟩:=info_parts flD_info;have HI:=hidH4 hi0 hz0 hz1 hz2;have HN:=hidH3 hn h1 hmz;clear hn h1 hmz hi0 hz0 hz1 hz2
 go_enter Tryz.func23,Tryz.ntmps23
 go_wp2;clear mf
 go_loopg [3,4] n (fun q vt vi wr=>∃k g cap:Nat,k+q=n∧vi=.int .i64 (k:Int)∧vt=.slice (some ⟨g,0,none⟩) k cap∧Hid (wr.ownsRow w.heap.size 55 4 (.slice (some ⟨g,0,none⟩) k cap) k ((l.take k).flatMap dxCells)∧Below w.heap.size w wr))
 case atStart =>
  exact⟨0,w.heap.size,n+1,by omega,rfl,rfl,⟨rfl,.inr ⟨w.heap.size,n+1,zc,rfl,Nat.le_refl _,heap_alloc_new w _,Nat.zero_le _,by unfold maxLen;omega,HN.out.2.2,rfl⟩⟩,(Below.refl _ _).alloc (Nat.le_refl _) _⟩
 case round =>
  obtain⟨k,g,cap,hk,rfl,rfl,HR⟩:=hrel;have hrb:=HR.out.2.size
  by_cases hlt:k<n
  ·obtain⟨x,hx⟩:∃x,l[k]? = some x:=⟨_,List.getElem?_eq_getElem (by rw[HN.out.1];exact hlt)⟩;obtain⟨b,off,rfl,hcl⟩:=HN.out.2.1 k x hx;have HX:=Lib.hid (show (l.take (k+1)).flatMap dxCells=(l.take k).flatMap dxCells++dxCells x by rw[List.take_add_one,hx,List.flatMap_append];simp);have z0:wr.cell? ⟨b,off+k*4,none⟩=some (.string x.file):=by have h2:=hcl 0 _ rfl;(try simp only[Nat.mul_one,Nat.add_zero] at h2);exact (HR.out.2.cell (p:=⟨b,off+k*4,none⟩) (World.block_lt_of_cell? w _ h2)).trans h2
   have z1:wr.cell? ⟨b,off+k*4+1,none⟩=some (.int .i64 x.line):=by have h2:=hcl 1 _ rfl;(try simp only[Nat.mul_one,Nat.add_zero] at h2);exact (HR.out.2.cell (p:=⟨b,off+k*4+1,none⟩) (World.block_lt_of_cell? w _ h2)).trans h2
   have z2:wr.cell? ⟨b,off+k*4+2,none⟩=some (.int .i64 x.fault):=by have h2:=hcl 2 _ rfl;(try simp only[Nat.mul_one,Nat.add_zero] at h2);exact (HR.out.2.cell (p:=⟨b,off+k*4+2,none⟩) (World.block_lt_of_cell? w _ h2)).trans h2
   have z3:wr.cell? ⟨b,off+k*4+3,none⟩=some (.string x.text):=by have h2:=hcl 3 _ rfl;(try simp only[Nat.mul_one,Nat.add_zero] at h2);exact (HR.out.2.cell (p:=⟨b,off+k*4+3,none⟩) (World.block_lt_of_cell? w _ h2)).trans h2
   obtain⟨a0,ha0⟩:∃a,x.file=a:=⟨_,rfl⟩;rw[ha0] at z0;obtain⟨a1,ha1⟩:∃a,x.line=a:=⟨_,rfl⟩;rw[ha1] at z1;obtain⟨a2,ha2⟩:∃a,x.fault=a:=⟨_,rfl⟩;rw[ha2] at z2;obtain⟨a3,ha3⟩:∃a,x.text=a:=⟨_,rfl⟩;rw[ha3] at z3;have HC:=Lib.hid (show dxCells x=[.string a0,.int .i64 a1,.int .i64 a2,.string a3] by unfold dxCells;rw[ha0,ha1,ha2,ha3]);clear hx hcl ha0 ha1 ha2 ha3
   go_wp2_with (at_builtin;refine wpList_append_lies _ rfl _ _ 23 rfl w.heap.size 55 i0 _ 4 48 flD_under HI.out.1 HI.out.2.1 HI.out.2.2.1 HI.out.2.2.2 rfl (by omega) (.slice (some ⟨g,0,none⟩) k cap) k ((l.take k).flatMap dxCells) (by rfl) (HR.out.1.alloc _) ⟨wr.heap.size,0,none⟩ 1 1 [.string a0,.int .i64 a1,.int .i64 a2,.string a3] (by rfl) (by rfl) (World.news_of_block (cs:=#[.string a0,.int .i64 a1,.int .i64 a2,.string a3]) (t:=55) (fr:=(0,0)) (heap_alloc_new wr _)) (by simp[Value.oneCell']) (by omega) (by unfold maxLen;omega) (by omega) (by simp;omega) (wr.heap.size+1) (by simp) ?_;intro g1 cap1 w3 hown3 hgrow hat hlt3)
   have hb3:Below w.heap.size w w3:=(HR.out.2.alloc hrb _).trans ((Chg.grown hgrow).toBelow (by simp;omega) (fun j hj=>(HR.out.1.lt j hj.symm).1));have HE:=hidH2 (show w3.ownsRow w.heap.size 55 4 (.slice (some ⟨g1,0,none⟩) (k+1) cap1) (k+1) ((l.take (k+1)).flatMap dxCells) by rw[HX.out,HC.out];exact hown3) hb3;clear hown3 hgrow hat hlt3 hb3
   go_roundg (gk-1)
   case measure=>omega
   case rel=>exact⟨k+1,g1,cap1,by omega,by go_num,rfl,HE.out⟩
  ·obtain rfl:k=n:=by omega
   have hown:wr.ownsRow w.heap.size 55 4 (.slice (some ⟨g,0,none⟩) k cap) k (l.flatMap dxCells):=by
    have h2:=HR.out.1;rw[List.take_of_length_le (by rw[HN.out.1];exact Nat.le_refl _)] at h2;exact h2
   have HO:=hidH2 hown HR.out.2;clear hown
   go_wp2_with (at_builtin;refine wpList_append_lies _ rfl _ _ 23 rfl w.heap.size 55 i0 _ 4 48 flD_under HI.out.1 HI.out.2.1 HI.out.2.2.1 HI.out.2.2.2 rfl (by omega) (.slice (some ⟨g,0,none⟩) k cap) k (l.flatMap dxCells) (by rfl) (HO.out.1.alloc _) ⟨wr.heap.size,0,none⟩ 1 1 [.string ⟨#[115,112,97,114,101]⟩,.int .i64 0,.int .i64 0,.string ⟨#[]⟩] (by rfl) (by rfl) (World.news_of_block (cs:=#[.string ⟨#[115,112,97,114,101]⟩,.int .i64 0,.int .i64 0,.string ⟨#[]⟩]) (t:=55) (fr:=(0,0)) (heap_alloc_new wr _)) (by simp[Value.oneCell']) (by omega) (by unfold maxLen;omega) (by omega) (by simp;omega) (wr.heap.size+1) (by simp) ?_;intro g1 cap1 w3 hown3 hgrow hat hlt3;have hcap3:=fl_cap hown3)
   have hb3:Below w.heap.size w w3:=(HO.out.2.alloc hrb _).trans ((Chg.grown hgrow).toBelow (by simp;omega) (fun j hj=>(HO.out.1.lt j hj.symm).1));have HE:=hidH2 hown3 hb3;clear hown3 hgrow hat hlt3 hb3
   go_ret
   exact⟨_,rfl,⟨g1,cap1,by rw[HN.out.1];rfl,by rw[HN.out.1];exact HE.out.1⟩,HE.out.2⟩
theorem leftDiags_any {w:World}{t v:Value}{l:List Dx}{b0:Nat} (ht:FlatM dxCells 4 55 markD b0 w t l) (h:FlatAt dxCells 4 w v l) (hl:l.length≤1048576) :
  Calls Tryz.prog 32 #[t,v] w fun e w'=>e=.returned (.bool true)∧Below w.heap.size w w':=by
 obtain⟨A,c,rfl,hc,h1⟩:=h;obtain⟨g,cap,rfl,ht2⟩:=ht;obtain⟨n,hn⟩:∃n,l.length=n:=⟨_,rfl⟩;rw[hn] at hl hc ht2 ⊢;have hcap:=fl_cap ht2;obtain⟨h2,h3⟩:=FlatM.at (f:=dxCells) (fun _=>rfl) ht2 hn;have s0:w.cell? ⟨g,n*4,none⟩=some (.string ⟨#[115,112,97,114,101]⟩):=by have h4:=h3 0 _ rfl;(try simp only[Nat.mul_one,Nat.add_zero] at h4);exact h4
 have s1:w.cell? ⟨g,n*4+1,none⟩=some (.int .i64 0):=h3 1 _ rfl;have s2:w.cell? ⟨g,n*4+2,none⟩=some (.int .i64 0):=h3 2 _ rfl;have s3:w.cell? ⟨g,n*4+3,none⟩=some (.string ⟨#[]⟩):=h3 3 _ rfl;have HN:=hidH3 hn h1 h2;have HS:=hidH4 s0 s1 s2 (s3);clear hn h1 h2 h3 ht2 s0 s1 s2 s3
 go_enter Tryz.func32,Tryz.ntmps32
 go_wp2
 go_loopg [5] n (fun q vi wr=>∃k:Nat,k+q=n∧vi=.int .i64 (k:Int)∧Hid (Below w.heap.size w wr))
 case atStart=>exact⟨0,by omega,rfl,Below.refl _ _⟩
 case round =>
  obtain⟨k,hk,rfl,HB⟩:=hrel
  by_cases hlt:k<n
  ·obtain⟨x,hx⟩:∃x,l[k]? = some x:=⟨_,List.getElem?_eq_getElem (by rw[HN.out.1];exact hlt)⟩;obtain⟨b,off,rfl,hcl⟩:=HN.out.2.1 k x hx;have hcg:=HN.out.2.2 k x hx;have z0:wr.cell? ⟨b,off+k*4,none⟩=some (.string x.file):=by have h2:=hcl 0 _ rfl;(try simp only[Nat.mul_one,Nat.add_zero] at h2);exact (HB.out.cell (p:=⟨b,off+k*4,none⟩) (World.block_lt_of_cell? w _ h2)).trans h2
   have y0:wr.cell? ⟨g,k*4,none⟩=some (.string x.file):=by have h2:=hcg 0 _ rfl;(try simp only[Nat.mul_one,Nat.add_zero] at h2);exact (HB.out.cell (p:=⟨g,k*4,none⟩) (World.block_lt_of_cell? w _ h2)).trans h2
   have z1:wr.cell? ⟨b,off+k*4+1,none⟩=some (.int .i64 x.line):=by have h2:=hcl 1 _ rfl;(try simp only[Nat.mul_one,Nat.add_zero] at h2);exact (HB.out.cell (p:=⟨b,off+k*4+1,none⟩) (World.block_lt_of_cell? w _ h2)).trans h2
   have y1:wr.cell? ⟨g,k*4+1,none⟩=some (.int .i64 x.line):=by have h2:=hcg 1 _ rfl;(try simp only[Nat.mul_one,Nat.add_zero] at h2);exact (HB.out.cell (p:=⟨g,k*4+1,none⟩) (World.block_lt_of_cell? w _ h2)).trans h2
   have z2:wr.cell? ⟨b,off+k*4+2,none⟩=some (.int .i64 x.fault):=by have h2:=hcl 2 _ rfl;(try simp only[Nat.mul_one,Nat.add_zero] at h2);exact (HB.out.cell (p:=⟨b,off+k*4+2,none⟩) (World.block_lt_of_cell? w _ h2)).trans h2
   have y2:wr.cell? ⟨g,k*4+2,none⟩=some (.int .i64 x.fault):=by have h2:=hcg 2 _ rfl;(try simp only[Nat.mul_one,Nat.add_zero] at h2);exact (HB.out.cell (p:=⟨g,k*4+2,none⟩) (World.block_lt_of_cell? w _ h2)).trans h2
   have z3:wr.cell? ⟨b,off+k*4+3,none⟩=some (.string x.text):=by have h2:=hcl 3 _ rfl;(try simp only[Nat.mul_one,Nat.add_zero] at h2);exact (HB.out.cell (p:=⟨b,off+k*4+3,none⟩) (World.block_lt_of_cell? w _ h2)).trans h2
   have y3:wr.cell? ⟨g,k*4+3,none⟩=some (.string x.text):=by have h2:=hcg 3 _ rfl;(try simp only[Nat.mul_one,Nat.add_zero] at h2);exact (HB.out.cell (p:=⟨g,k*4+3,none⟩) (World.block_lt_of_cell? w _ h2)).trans h2
   obtain⟨a0,ha0⟩:∃a,x.file=a:=⟨_,rfl⟩;rw[ha0] at z0 y0;obtain⟨a1,ha1⟩:∃a,x.line=a:=⟨_,rfl⟩;rw[ha1] at z1 y1;obtain⟨a2,ha2⟩:∃a,x.fault=a:=⟨_,rfl⟩;rw[ha2] at z2 y2;obtain⟨a3,ha3⟩:∃a,x.text=a:=⟨_,rfl⟩;rw[ha3] at z3 y3;clear hx hcl hcg ha0 ha1 ha2 ha3;go_wp2
   go_quiet (fail)
   go_wp2;have hb2:=Below.trans HB.out (((Chg.refl wr (fun _=>False)).drewN nq).toBelow HB.out.size (fun _ h=>h.elim))
   go_roundg (gk-1)
   case measure=>omega
   case rel=>exact⟨k+1,by omega,by go_num,hb2⟩
  ·obtain rfl:k=n:=by omega
   have z0:=(HB.out.cell (p:=⟨g,k*4,none⟩) (World.block_lt_of_cell? w _ (HS.out.1))).trans (HS.out.1);have z1:=(HB.out.cell (p:=⟨g,k*4+1,none⟩) (World.block_lt_of_cell? w _ (HS.out.2.1))).trans (HS.out.2.1);have z2:=(HB.out.cell (p:=⟨g,k*4+2,none⟩) (World.block_lt_of_cell? w _ (HS.out.2.2.1))).trans (HS.out.2.2.1);have z3:=(HB.out.cell (p:=⟨g,k*4+3,none⟩) (World.block_lt_of_cell? w _ (HS.out.2.2.2))).trans (HS.out.2.2.2);go_wp2
   go_ret
   exact⟨by first|rfl|simp,by first|exact HB.out|exact HB.out.alloc HB.out.size _⟩
theorem diagsSize_any {w:World}{v:Value}{ds:List Dx}{l:List (ByteArray×ByteArray)} (hds:ds.map (fun d=>(d.file,d.text))=l) (h:FlatAt dxCells 4 w v ds) (hl:twoZ l≤1048576) :
  Calls Tryz.prog 19 #[v] w fun e w'=>e=.returned (.int .i64 (twoZ l:Int))∧Below w.heap.size w w':=by
 obtain⟨A,c,rfl,hc,k1⟩:=h;have hdl:ds.length=l.length:=by rw[←hds,List.length_map]
 rw[hdl] at hc ⊢;have H1:=hidH2 hds k1;obtain⟨m,hm⟩:∃m,l.length=m:=⟨_,rfl⟩;have HL:Hid (∀k,k≤m→m+((l.take k).map fun f=>f.1.size+f.2.size).sum≤1048576):=Lib.hid (fun k _=>by
  have:=sum_take_le (l.map fun f=>f.1.size+f.2.size) k
  unfold twoZ at hl;rw[←List.map_take] at this;omega)
 have hml:m≤1048576:=by unfold twoZ at hl;omega
 have HZ:Hid (twoZ l=m+(l.map fun f=>f.1.size+f.2.size).sum):=Lib.hid (by unfold twoZ;omega);rw[hm] at hc ⊢;have HN:=Lib.hid hm;clear hm k1 hl hds hdl
 go_enter Tryz.func19,Tryz.ntmps19
 go_wp2_with fail
 go_loopg [3,4] m (fun q nv iv wr=>∃k n:Nat,k+q=m∧iv=.int .i64 (k:Int)∧nv=.int .i64 (n:Int)∧n≤1048576∧Hid (n=m+((l.take k).map fun f=>f.1.size+f.2.size).sum∧Below w.heap.size w wr))
 case atStart=>exact⟨0,m,by omega,rfl,rfl,hml,Lib.hid ⟨by simp,Below.refl _ _⟩⟩
 case round =>
  obtain⟨k,n,hk,rfl,rfl,hn,HR⟩:=hrel
  by_cases hlt:k<m
  ·obtain⟨f,hf⟩:∃f,l[k]? = some f:=⟨_,List.getElem?_eq_getElem (by rw[HN.out];exact hlt)⟩;obtain⟨dg,hdg⟩:∃dg,ds[k]? = some dg:=⟨_,List.getElem?_eq_getElem (by have h1:=HN.out;rw[←H1.out.1,List.length_map] at h1;omega)⟩;have hfd:(dg.file,dg.text)=f:=by
    have h1:=hf;rw[←H1.out.1,List.getElem?_map,hdg] at h1;exact Option.some.inj h1
   obtain⟨b,off,rfl,hcl⟩:=H1.out.2 k dg hdg;have x0:w.cell? ⟨b,off+k*4,none⟩=some (.string f.1):=by rw[←hfd];exact hcl 0 _ rfl
   have x1:w.cell? ⟨b,off+k*4+3,none⟩=some (.string f.2):=by rw[←hfd];exact hcl 3 _ rfl
   have e:∀{p:Addr} {z:Value},w.cell? p=some z→wr.cell? p=some z:=fun {p z} h=>(HR.out.2.cell (World.block_lt_of_cell? w _ h)).trans h
   replace x0:=e x0
   replace x1:=e x1
   have hnx:=twoZ_take hf;rw[HN.out,←HR.out.1] at hnx;have hle:=HL.out (k+1) (by omega);rw[hnx] at hle;obtain⟨gx,hgx⟩:∃gx,f.2=gx:=⟨_,rfl⟩;obtain⟨nx,hnm⟩:∃nx,f.1=nx:=⟨_,rfl⟩;rw[hgx] at x1 hnx hle;rw[hnm] at x0 hnx hle;have HX:=Lib.hid hnx;have HD:=Lib.hid (HR.out.2.drew);clear e hf hgx hnm hnx hdg hfd hcl
   go_wp2_with fail
   go_region
   all_goals (
    go_wp2_with fail
    go_roundg (gk-1)
    case measure=>omega
    case rel=>exact⟨k+1,n+(nx.size+gx.size),by omega,by go_num,by go_num,hle,Lib.hid ⟨HX.out.symm,by first|exact HD.out|exact HR.out.2⟩⟩)
  ·obtain rfl:k=m:=by omega
   have hfin:Hid (n=twoZ l):=Lib.hid (by
    have:=HR.out.1
    rw[List.take_of_length_le (by rw[HN.out];exact Nat.le_refl _)] at this;rw[HZ.out,this])
   go_wp2_with fail
   go_ret
   exact⟨by rw[←hfin.out];(first|done|rfl),HR.out.2⟩
theorem textsSize_any {w:World}{v:Value}{ds:List ByteArray}{l:List (ByteArray×ByteArray)} (hds:ds.map (fun d=>(d,(⟨#[]⟩:ByteArray)))=l) (h:FlatAt txC 1 w v ds) (hl:twoZ l≤1048576) :
  Calls Tryz.prog 20 #[v] w fun e w'=>e=.returned (.int .i64 (twoZ l:Int))∧Below w.heap.size w w':=by
 obtain⟨A,c,rfl,hc,k1⟩:=h;have hdl:ds.length=l.length:=by rw[←hds,List.length_map]
 rw[hdl] at hc ⊢;have H1:=hidH2 hds k1;obtain⟨m,hm⟩:∃m,l.length=m:=⟨_,rfl⟩;have HL:Hid (∀k,k≤m→m+((l.take k).map fun f=>f.1.size+f.2.size).sum≤1048576):=Lib.hid (fun k _=>by
  have:=sum_take_le (l.map fun f=>f.1.size+f.2.size) k
  unfold twoZ at hl;rw[←List.map_take] at this;omega)
 have hml:m≤1048576:=by unfold twoZ at hl;omega
 have HZ:Hid (twoZ l=m+(l.map fun f=>f.1.size+f.2.size).sum):=Lib.hid (by unfold twoZ;omega);rw[hm] at hc ⊢;have HN:=Lib.hid hm;clear hm k1 hl hds hdl
 go_enter Tryz.func20,Tryz.ntmps20
 go_wp2_with fail
 go_loopg [3,4] m (fun q nv iv wr=>∃k n:Nat,k+q=m∧iv=.int .i64 (k:Int)∧nv=.int .i64 (n:Int)∧n≤1048576∧Hid (n=m+((l.take k).map fun f=>f.1.size+f.2.size).sum∧Below w.heap.size w wr))
 case atStart=>exact⟨0,m,by omega,rfl,rfl,hml,Lib.hid ⟨by simp,Below.refl _ _⟩⟩
 case round =>
  obtain⟨k,n,hk,rfl,rfl,hn,HR⟩:=hrel
  by_cases hlt:k<m
  ·obtain⟨f,hf⟩:∃f,l[k]? = some f:=⟨_,List.getElem?_eq_getElem (by rw[HN.out];exact hlt)⟩;obtain⟨dg,hdg⟩:∃dg,ds[k]? = some dg:=⟨_,List.getElem?_eq_getElem (by have h1:=HN.out;rw[←H1.out.1,List.length_map] at h1;omega)⟩;have hfd:(dg,(⟨#[]⟩:ByteArray))=f:=by
    have h1:=hf;rw[←H1.out.1,List.getElem?_map,hdg] at h1;exact Option.some.inj h1
   obtain⟨b,off,rfl,hcl⟩:=H1.out.2 k dg hdg;have x0:w.cell? ⟨b,off+k,none⟩=some (.string f.1):=by rw[←hfd];have h2:=hcl 0 _ rfl;(try simp only[Nat.mul_one,Nat.add_zero] at h2);exact h2
   replace x0:=(HR.out.2.cell (World.block_lt_of_cell? w _ x0)).trans x0
   have hnx:=twoZ_take hf;rw[HN.out,←HR.out.1] at hnx;have hle:=HL.out (k+1) (by omega);rw[hnx] at hle;have hgx:f.2.size=0:=by rw[←hfd];rfl
   obtain⟨nx,hnm⟩:∃nx,f.1=nx:=⟨_,rfl⟩;rw[hgx,Nat.add_zero] at hnx hle;rw[hnm] at x0 hnx hle;have HX:=Lib.hid hnx;have HD:=Lib.hid (HR.out.2.drew);clear hf hgx hnm hnx hdg hfd hcl
   go_wp2_with fail
   all_goals (
    go_roundg (gk-1)
    case measure=>omega
    case rel=>exact⟨k+1,n+nx.size,by omega,by go_num,by go_num,hle,Lib.hid ⟨HX.out.symm,by first|exact HD.out|exact HR.out.2⟩⟩)
  ·obtain rfl:k=m:=by omega
   have hfin:Hid (n=twoZ l):=Lib.hid (by
    have:=HR.out.1
    rw[List.take_of_length_le (by rw[HN.out];exact Nat.le_refl _)] at this;rw[HZ.out,this])
   go_wp2_with fail
   go_ret
   exact⟨by rw[←hfin.out];(first|done|rfl),HR.out.2⟩
end Go.Proofs.YtkdknllcllhpgaaGreatDoor
