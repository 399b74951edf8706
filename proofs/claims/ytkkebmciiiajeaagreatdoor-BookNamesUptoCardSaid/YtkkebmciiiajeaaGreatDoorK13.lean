/- part 13 -/
import Derived.Deep.DeepCutAuto
import Derived.Lib.SplitLaws
import Derived.Lib.CountLaws
import Derived.Test.YtkkebmciiiajeaaGreatDoorK0
import Derived.Test.YtkkebmciiiajeaaGreatDoorK11
import Derived.Test.YtkkebmciiiajeaaGreatDoorK12
set_option linter.unusedSimpArgs false
set_option linter.unusedVariables false
set_option maxHeartbeats 16000000
set_option maxRecDepth 100000
namespace Go.Proofs.YtkkebmciiiajeaaGreatDoor
open Go.RowKit Go.Bd
theorem cdA_info:(Tryz.prog.info? tCd).map (fun i=>(i.zero,i.size,i.bytes))=some (some (.agg #[.string ⟨#[]⟩,.int .i64 0,.string ⟨#[]⟩,.bool false,.bool false,.bool false]),6,48):=by kernel_rfl
theorem cds_under:Tryz.prog.underlying 165=some (.slice tCd):=by kernel_rfl
theorem askC_size {l:List At}{s:Bs}{p:ByteArray×Bool} (h:askC l s=some p):p.1.size≤s.length:=by
 unfold askC at h;split at h
 ·cases h
  dsimp only;rw[size_ofB];exact (split_le s).1
 ·cases h
def beginC (l:Ln) (rest:Bs) (st:Ast) (cs:List Cd):Ast×Cd :=
 if force cs then
  match askC st.attrs rest with
  | none=>(st.tell l 3 l.text,⟨l,false,false,false⟩)
  | some p=>if 16≤cs.length then (st.tell l 5 l.text,⟨l,false,false,false⟩) else (st.ask p.1,⟨l,p.2,!p.2,false⟩)
 else (st,⟨l,false,false,false⟩)
theorem begin_eq (l:Ln) (rest:Bs) (st:Ast) (cs:List Cd):beginM l rest st cs=((beginC l rest st cs).1,cs++[(beginC l rest st cs).2]):=by
 unfold beginM beginC;cases force cs with
 | false=>rfl
 | true =>
  simp only[if_true];cases askC st.attrs rest with
  | none=>rfl
  | some p =>
   dsimp only
   by_cases h:16≤cs.length
   ·rw[if_pos h,if_pos h]
   ·rw[if_neg h,if_neg h]
section
variable {w w' w'':World} {κ κ':Nat→Nat} {rb wm:Nat} {sv:Value} {v:Rv} {st:Ast} {pre:Stk} {nm:ByteArray} {cs:List Cd} {pb:List (Nat×Value)} {b:Nat} {rv:Value}
theorem Mv.priv {C:Nat} (h:Mv w w' κ κ') (hc:Chg w' w'' (fun k=>k=C)) (hC:w.heap.size≤C):Mv w w'' κ κ' :=
 ⟨h.chg.trans hc (fun k hk e=>by have e:k=C:=e;omega),h.same⟩
theorem cond_done {A:Option Addr}{cp g cap:Nat}{W1 w2:World}{c:Cd} (h:ARd W1 κ rb wm sv v st (pre++[(nm,cs)])) (hv:v.sb=pb++[(b,.slice A cs.length cp)])
  (hc:Chg W1 w2 (fun k=>(Value.slice A cs.length cp).ownBlock=some k)) (ho:w2.ownsRow 0 tCd 6 (.slice (some ⟨g,0,none⟩) (cs.length+1) cap) (cs.length+1) (rowCd cs++cdCells c))
  (hat:(Value.slice A cs.length cp).ownBlock=some g∨g=W1.heap.size+1) (hg:g<w2.heap.size) (hgb:g≠b) :
  ARd (w2.setCell ⟨b,1,none⟩ (.slice (some ⟨g,0,none⟩) (cs.length+1) cap)) (recol κ W1.heap.size g (21+2*pre.length)) rb wm sv { v with sb:=pb++[(b,.slice (some ⟨g,0,none⟩) (cs.length+1) cap)] } st (pre++[(nm,cs++[c])])∧Mv W1 (w2.setCell ⟨b,1,none⟩ (.slice (some ⟨g,0,none⟩) (cs.length+1) cap)) κ (recol κ W1.heap.size g (21+2*pre.length)):=by
 have hs:=h.last hv;have hkb:κ b=20+2*pre.length:=hs.kb;have hbl:b<W1.heap.size:=hs.hold.lt;have hS:=Chg.set w2 ⟨b,1,none⟩ (.slice (some ⟨g,0,none⟩) (cs.length+1) cap);have hR:Chg W1 (w2.setCell ⟨b,1,none⟩ (.slice (some ⟨g,0,none⟩) (cs.length+1) cap)) (fun k=>κ k=20+2*pre.length∨κ k=21+2*pre.length) :=
  (hc.mono (fun k _ hk=>.inr (hs.kr k hk))).trans hS (fun k _ hk=>.inl (by have e:k=b:=hk;rw[e];exact hkb))
 have hz:(w2.setCell ⟨b,1,none⟩ (.slice (some ⟨g,0,none⟩) (cs.length+1) cap)).heap.size=w2.heap.size:=by simp[World.setCell]
 refine⟨h.set_top hv hR (fun k hk=>recol_old hk) (fun k hk=>?_) ⟨(hc.holds (fun e=>by have h1:=hs.kr b e;omega) hs.hold).set 1 _,?_,(recol_old hbl).trans hkb,fun k hk=>?_⟩,hR.mono (fun k _ hk=>by omega),fun k hk=>recol_old hk⟩
 ·rw[hz];unfold recol at hk;split at hk
  ·have:=hc.size;omega
  ·split at hk
   ·omega
   ·exact absurd rfl hk
 ·dsimp only;rw[List.length_append,List.length_singleton];have e:rowCd (cs++[c])=rowCd cs++cdCells c:=by unfold rowCd;simp
  rw[e];exact ownsRow_setCell_other ho (a:=⟨b,1,none⟩) (fun e=>hgb (by injection e)) _
 ·have e1:g=k:=by simpa [Value.ownBlock] using hk
  rw[←e1];refine recol_at ?_ (fun hk=>h.lt _ (by omega))
  rcases hat with h1|h1
  ·exact .inl (hs.kr g h1)
  ·exact .inr (by omega)
theorem a_force_any (h:SrcAt w κ pre.length (b,rv) (nm,cs)) (hn:cs.length≤100000) :
  Calls Tryz.prog 96 #[.pointer (some ⟨b,0,none⟩)] w fun e w'=>e=.returned (.bool (force cs))∧Below w.heap.size w w':=by
 rcases List.eq_nil_or_concat cs with hcs|⟨c0,c,hcs⟩
 ·subst hcs;exact a_force_nil h
 ·rw[List.concat_eq_append] at hcs;subst hcs;rw[List.length_append,List.length_singleton] at hn;have e:force (c0++[c])=c.holds:=by unfold force;rw[List.getLast?_concat]
  rw[e];exact a_force_at h (by omega)
theorem cd_six {C:Nat}{cf ct:ByteArray}{cn:Int}{x y z:Bool} (h:Holds w C tCd #[.string cf,.int .i64 cn,.string ct,.bool x,.bool y,.bool z]) :
  w.cell? ⟨C,0,none⟩=some (.string cf)∧w.cell? ⟨C,1,none⟩=some (.int .i64 cn)∧w.cell? ⟨C,2,none⟩=some (.string ct)∧w.cell? ⟨C,3,none⟩=some (.bool x)∧w.cell? ⟨C,4,none⟩=some (.bool y)∧w.cell? ⟨C,5,none⟩=some (.bool z):=by
 have c0:=h.cell 0;have c1:=h.cell 1;have c2:=h.cell 2;have c3:=h.cell 3;have c4:=h.cell 4;have c5:=h.cell 5;simp at c0 c1 c2 c3 c4 c5;exact⟨c0,c1,c2,c3,c4,c5⟩
def BegP (w:World) (κ:Nat→Nat) (rb wm:Nat) (sv:Value) (pre:Stk) (nm:ByteArray) (cs:List Cd) (pb:List (Nat×Value)) (b:Nat) (rv:Value) (C:Nat) (r:Ast×Cd) (wx:World):Prop :=
 ∃κ' v',v'.sb=pb++[(b,rv)]∧ARd wx κ' rb wm sv v' r.1 (pre++[(nm,cs)])∧Mv w wx κ κ'∧Holds wx C tCd (cdCells r.2).toArray∧κ' C=0∧w.heap.size≤C
theorem a_begin (h:ARd w κ rb wm sv v st (pre++[(nm,cs)])) (hv:v.sb=pb++[(b,rv)]) (hn:pre.length≤1000) (hc:cs.length≤100000) (hd:st.diags.length≤1000000000) (ha:st.asked.length≤1000000000000) (hat:st.attrs.length≤1000000000){m:Int} (hg:Glob m w) (l:Ln) (rest:ByteArray) (hr:rest.size≤100000) :
  Calls Tryz.prog 54 #[.pointer (some ⟨rb,0,none⟩),lnV l,.string rest] w fun e w'=>e=.returned (.tuple #[])∧WordP w κ rb wm sv pre nm pb b (beginM l rest.data.toList st cs) w':=by
 rw[begin_eq];have hB:=(Below.refl w.heap.size w).alloc (Nat.le_refl _) (.cells #[.string l.file,.int .i64 l.no,.string l.text] 156);have h1:=h.below hB;have hm1:=Mv.below hB κ;have hbx:=fun w' hb n hn=>@boxed_cell w l w' hb n hn
 unfold boxed at hbx;unfold lnV;obtain⟨n,hnn⟩:∃n,w.heap.size=n:=⟨_,rfl⟩;obtain⟨W1,hW1⟩:∃W1,w.alloc (.cells #[.string l.file,.int .i64 l.no,.string l.text] 156)=W1:=⟨_,rfl⟩;rw[hW1] at h1 hm1 hbx;have HB:=hidH4 h1 hm1 hbx hnn;have HG:=hidH2 hg h.three;clear h1 hm1 hbx hB h hg
 go_enter Tryz.func54,Tryz.ntmps54
 go_wp2_with fail
 (try rw[hW1])
 (try rw[hnn])
 clear hW1 hnn;refine (a_top HB.out.1 hv hn).mono ?_;rintro e w2 ⟨rfl,hb2⟩;have h2:=HB.out.1.below hb2;obtain⟨d0,d1,d2⟩:=HB.out.2.2.1 w2 hb2 n HB.out.2.2.2;have H2:=hidH3 h2 (HB.out.2.1.trans (Mv.below hb2 κ)) hb2;clear h2 hb2;have hB2:=(Below.refl w2.heap.size w2).alloc (Nat.le_refl _) (.cells #[.string l.file,.int .i64 l.no,.string l.text,.bool false,.bool false,.bool false] tCd);have hC2:=Holds.new w2 tCd #[.string l.file,.int .i64 l.no,.string l.text,.bool false,.bool false,.bool false];have h3:=H2.out.1.below hB2;have hm3:=H2.out.2.1.trans (Mv.below hB2 κ);have hk3:κ w2.heap.size=0:=by
  by_cases e:κ w2.heap.size=0
  ·exact e
  ·exact absurd (H2.out.1.lt _ e) (by omega)
 have hz3:w.heap.size≤w2.heap.size:=H2.out.2.1.chg.size;obtain⟨C,hC⟩:∃C,w2.heap.size=C:=⟨_,rfl⟩;obtain⟨W3,hW3⟩:∃W3,w2.alloc (.cells #[.string l.file,.int .i64 l.no,.string l.text,.bool false,.bool false,.bool false] tCd)=W3:=⟨_,rfl⟩;have hd3:=H2.out.2.2.trans (hB2.mono H2.out.2.2.size);rw[hW3] at h3 hm3 hC2 hd3;rw[hC] at hC2 hk3 hz3;have H3:=hidH6 h3 hm3 hC2 hk3 hz3 hd3;unfold tCd at hW3;have HC:=hidH2 hW3 hC;clear hW3 hC;clear h3 hm3 hC2 hk3 hz3 hB2 hd3
 go_wp2_with fail
 (try rw[HC.out.1])
 (try rw[HC.out.2])
 clear HC d0 d1 d2;refine (a_force_any (H3.out.1.last hv) hc).mono ?_;rintro e w4 ⟨rfl,hb4⟩;have h4:=H3.out.1.below hb4;have H4:=hidH4 h4 (H3.out.2.1.trans (Mv.below hb4 κ)) (H3.out.2.2.1.below hb4 H3.out.2.2.1.lt) (H3.out.2.2.2.2.2.trans (hb4.mono H3.out.2.2.2.2.2.size));clear h4 hb4;obtain⟨bf,hbf⟩:∃bf,force cs=bf:=⟨_,rfl⟩;rw[hbf];have HF:=Lib.hid hbf;clear hbf
 go_upto_if 16 with fail
 go_cut [7,8,9,10] (fun s7 s8 s9 s10 wx=>s7=.pointer (some ⟨C,0,none⟩)∧Hid (BegP w κ rb wm sv pre nm cs pb b rv C (beginC l rest.data.toList st cs) wx))
 case first =>
  obtain⟨A5,c5,hav,_⟩:=own_rowL H4.out.1.attrs;have c1:=H4.out.1.hold.cell 1;simp at c1;have hA:=Ask_any (attrs_at H4.out.1.attrs) (fun k hk=>H4.out.1.lt k (by rw[H4.out.1.kAt k hk];decide)) hat rest hr (HG.out.1.chg H4.out.2.1.chg (fun k hk=>HG.out.2 k hk));rw[hav] at c1 hA;have hBC:Hid (beginC l rest.data.toList st cs=if bf then match askC st.attrs rest.data.toList with
   | none=>(st.tell l 3 l.text,⟨l,false,false,false⟩)
   | some p=>if 16≤cs.length then (st.tell l 5 l.text,⟨l,false,false,false⟩) else (st.ask p.1,⟨l,p.2,!p.2,false⟩) else (st,⟨l,false,false,false⟩)):=Lib.hid (by rw[←HF.out];rfl)
  have HA:=Lib.hid hA;clear hA hav;cases bf
  ·go_wp2_with fail
   go_meet
   case rel =>
    refine⟨rfl,Lib.hid ?_⟩;rw[hBC.out];exact⟨κ,v,hv,H4.out.1,H4.out.2.1,H4.out.2.2.1,H3.out.2.2.2.1,H3.out.2.2.2.2.1⟩
  ·have hsz:=fun p (h:askC st.attrs rest.data.toList=some p)=>askC_size h
   rw[size_lst] at hsz;cases hq:askC st.attrs rest.data.toList with
   | none =>
    rw[hq] at HA hBC;have HS:=Lib.hid hsz;clear hsz hq;unfold askV at HA
    go_wp2_with fail
    refine HA.out.mono ?_;rintro e w5 ⟨rfl,hb5⟩;have h5:=H4.out.1.below hb5;obtain⟨d0,d1,d2⟩:=HB.out.2.2.1 w5 (H4.out.2.2.2.trans (hb5.mono H4.out.2.2.2.size)) n HB.out.2.2.2;have H5:=hidH3 h5 (H4.out.2.1.trans (Mv.below hb5 κ)) (H4.out.2.2.1.below hb5 H4.out.2.2.1.lt);clear h5 hb5
    go_wp2_with fail
    refine (a_tell H5.out.1 l.file l.text l.no 3 l.text hd).mono ?_;rintro e w6 ⟨rfl,κ',dv',hr6,hm6⟩;have H6:=hidH2 hr6 hm6;clear hr6 hm6
    go_wp2_with fail
    go_meet
    case rel =>
     refine⟨rfl,Lib.hid ?_⟩;rw[hBC.out];exact⟨κ',{ v with dv:=dv' },hv,H6.out.1,H5.out.2.1.trans H6.out.2,H6.out.2.chg.holds (fun e=>e H3.out.2.2.2.1) H5.out.2.2,(H6.out.2.same C H5.out.2.2.lt).trans H3.out.2.2.2.1,H3.out.2.2.2.2.1⟩
   | some p =>
    have hpz:=hsz p hq;rw[hq] at HA hBC;have HS:=Lib.hid hsz;clear hsz hq;unfold askV at HA;obtain⟨pn,pb'⟩:=p
    by_cases h16:16≤cs.length
    ·go_wp2_with fail
     refine HA.out.mono ?_;rintro e w5 ⟨rfl,hb5⟩;have h5:=H4.out.1.below hb5;obtain⟨d0,d1,d2⟩:=HB.out.2.2.1 w5 (H4.out.2.2.2.trans (hb5.mono H4.out.2.2.2.size)) n HB.out.2.2.2;have b1:=(h5.last hv).hold.cell 1;obtain⟨A7,c7,hrv,_⟩:=own_rowL (h5.last hv).row;dsimp only at hrv;rw[hrv] at b1;simp at b1;have H5:=hidH3 h5 (H4.out.2.1.trans (Mv.below hb5 κ)) (H4.out.2.2.1.below hb5 H4.out.2.2.1.lt);clear h5 hb5 hrv
     go_wp2_with fail
     refine (a_tell H5.out.1 l.file l.text l.no 5 l.text hd).mono ?_;rintro e w6 ⟨rfl,κ',dv',hr6,hm6⟩;have H6:=hidH2 hr6 hm6;clear hr6 hm6
     go_wp2_with fail
     go_meet
     case rel =>
      refine⟨rfl,Lib.hid ?_⟩;rw[hBC.out,if_pos trivial,if_pos h16];exact⟨κ',{ v with dv:=dv' },hv,H6.out.1,H5.out.2.1.trans H6.out.2,H6.out.2.chg.holds (fun e=>e H3.out.2.2.2.1) H5.out.2.2,(H6.out.2.same C H5.out.2.2.lt).trans H3.out.2.2.2.1,H3.out.2.2.2.2.1⟩
    ·go_wp2_with fail
     refine HA.out.mono ?_;rintro e w5 ⟨rfl,hb5⟩;have h5:=H4.out.1.below hb5;have b1:=(h5.last hv).hold.cell 1;obtain⟨A7,c7,hrv,_⟩:=own_rowL (h5.last hv).row;dsimp only at hrv;rw[hrv] at b1;simp at b1;have H5:=hidH3 h5 (H4.out.2.1.trans (Mv.below hb5 κ)) (H4.out.2.2.1.below hb5 H4.out.2.2.1.lt);clear h5 hb5 hrv
     go_wp2_with fail
     refine (a_ask H5.out.1 pn (by have:pn.size≤rest.size:=hpz;omega) ha).mono ?_;rintro e w6 ⟨rfl,hr6,hm6⟩;have hH6:Holds w6 C tCd (cdCells ⟨l,false,false,false⟩).toArray:=hm6.chg.holds (fun e=>e H3.out.2.2.2.1) H5.out.2.2;have k3:=hH6.cell 3;have k4:=hH6.cell 4;have k5:=(hH6.set 3 (.bool pb')).cell 4;simp[cdCells] at k3 k4 k5;have f3:=hH6.free 3;have f5:=hH6.free 4;have f4:=(hH6.set 3 (.bool pb')).free 4;have hC6:=(Chg.set w6 ⟨C,3,none⟩ (.bool pb')).trans (Chg.set (w6.setCell ⟨C,3,none⟩ (.bool pb')) ⟨C,4,none⟩ (.bool !pb')) (fun _ _ h=>h);have H6:=hidH3 (hr6.chg hC6 (fun k hk e=>by have e:k=C:=e;rw[e] at hk;exact hk H3.out.2.2.2.1)) ((H5.out.2.1.trans hm6).priv hC6 H3.out.2.2.2.2.1) ((hH6.set 3 (.bool pb')).set 4 (.bool !pb'));clear hr6 hm6 hH6 hC6
     go_wp2_with fail
     go_meet
     case rel =>
      refine⟨rfl,Lib.hid ?_⟩;rw[hBC.out,if_pos trivial,if_neg h16];exact⟨κ,v,hv,H6.out.1,H6.out.2.1,H6.out.2.2,H3.out.2.2.2.1,H3.out.2.2.2.2.1⟩
 case rest =>
  obtain⟨hs7,HP⟩:=hcut;subst hs7;obtain⟨κ1,v1,hv1,h5,hm5,hc5,hk5,hz5⟩:=HP.out;clear HP;obtain⟨r,hr5⟩:∃r,beginC l rest.data.toList st cs=r:=⟨_,rfl⟩;rw[hr5] at h5 hc5;have HRR:=Lib.hid hr5;clear hr5;obtain⟨st1,⟨⟨cf,cn,ct⟩,x,y,z⟩⟩:=r;dsimp only at h5 hc5;obtain⟨i0,hi0,hz0,hz1,hz2⟩:=info_parts cdA_info;have HZ:=hidH4 hi0 hz0 hz1 hz2;clear hi0 hz0 hz1 hz2;have hs5:=h5.last hv1;obtain⟨A,cp,hrv,hcap⟩:=own_rowL hs5.row;dsimp only at hrv;subst hrv;have hrow:=hs5.row;dsimp only at hrow;have d:=hs5.hold.cell 1;have fd:=hs5.hold.free 1;simp at d;have hH:Holds wc C tCd #[.string cf,.int .i64 cn,.string ct,.bool x,.bool y,.bool z]:=hc5;have hbl:b<wc.heap.size:=hs5.hold.lt;have hCl:C<wc.heap.size:=hH.lt;have hkb:κ1 b=20+2*pre.length:=hs5.kb;have hbC:b≠C:=fun e=>by rw[e] at hkb;omega
  have hob:(Value.slice A cs.length cp).ownBlock≠some b:=fun e=>by have:=hs5.kr b e;omega
  have hoC:(Value.slice A cs.length cp).ownBlock≠some C:=fun e=>by have:=hs5.kr C e;omega
  have D:=cd_six hH;have E:=cd_six (hH.alloc (.cells #[.string cf,.int .i64 cn,.string ct,.bool x,.bool y,.bool z] 160));have ed:(wc.alloc (.cells #[.string cf,.int .i64 cn,.string ct,.bool x,.bool y,.bool z] 160)).cell? ⟨b,1,none⟩=some (.slice A cs.length cp):=by rw[World.cell?_alloc_lt _ _ _ hbl];exact d
  have H5:=hidH7 h5 hm5 hrow hH hkb hv1 hs5;clear h5 hm5 hrow hH hkb hs5 hc5 hk5 hz5 hv1;generalize hcl:cs.length=cl at *;have HCL:=Lib.hid hcl;clear hcl
  go_upto_region 11 with fail
  refine wp_region_held_drew (S:=(fun w'=>w'.cell? ⟨C,0,none⟩=some (.string cf)∧w'.cell? ⟨C,1,none⟩=some (.int .i64 cn)∧w'.cell? ⟨C,2,none⟩=some (.string ct)∧w'.cell? ⟨C,3,none⟩=some (.bool x)∧w'.cell? ⟨C,4,none⟩=some (.bool y)∧w'.cell? ⟨C,5,none⟩=some (.bool z))) (by kernel_rfl) ?_ (fun hHeld0=>?_)
  ·(try dsimp only)
   first|exact D|exact E|exact G|exact K6
  refine tkH 0 55 ?_;refine tkH 1 56 ?_;refine tkH 2 57 ?_;refine tkH 3 58 ?_;refine tkH 5 60 ?_;refine rdyH [4,6] ?_;refine AllReadyH.cons (o:=⟨some 59,_,_,_,_,_⟩) rfl (fun K hK=>?_) ?_
  ·skip
   go_simp;refine hK.out _ _ ?_ (fun hHeld1=>?_)
   ·(try dsimp only)
    first|exact D|exact E|exact G|exact K6
   clear hK K hHeld0
   (try go_frame)
   refine rdyH [6] ?_;refine AllReadyH.cons (o:=⟨some 61,_,_,_,_,_⟩) rfl (fun K hK=>?_) AllReadyH.nil;go_simp;refine hK.out _ _ ?_ (fun hHeld2=>?_)
   ·(try dsimp only)
    first|exact D|exact E|exact G|exact K6
   clear hK K hHeld1
   (try go_frame)
   refine rdyH [7] ?_;refine AllReadyH.cons (o:=⟨some 62,_,_,_,_,_⟩) rfl (fun K hK=>?_) AllReadyH.nil;refine step_append_lies _ (by rfl) _ _ _ (by rfl) 0 160 i0 _ 6 48 cds_under HZ.out.1 HZ.out.2.1 HZ.out.2.2.1 HZ.out.2.2.2 rfl (by omega) (.slice A cl cp) cl (rowCd cs) (by rfl) ((H5.out.2.2.1.alloc _).drew)
    ⟨wc.heap.size,0,none⟩ 1 1 [.string cf,.int .i64 cn,.string ct,.bool x,.bool y,.bool z] (by rfl) (by rfl) (World.news_of_block (cs:=#[.string cf,.int .i64 cn,.string ct,.bool x,.bool y,.bool z]) (t:=160) (fr:=(0,0)) (heap_alloc_new wc _)) (by simp[Value.oneCell'])
    (by omega) (by unfold maxLen;omega) (by omega) (Nat.zero_le _) (wc.heap.size+1) (by simp) ?_
   intro g cap w6 ho6 hg6 hat6 hl6;have hC6:Chg wc w6 (fun k=>(Value.slice A cl cp).ownBlock=some k):=(((Chg.refl wc _).alloc _).drew).trans (Chg.grown hg6) (fun _ _ h=>h.symm);have hgb:g≠b:=fun e=>by
    rcases hat6 with h|h
    ·exact hob (by rw[h,e])
    ·omega
   have hgC:g≠C:=fun e=>by
    rcases hat6 with h|h
    ·exact hoC (by rw[h,e])
    ·omega
   have hH6:=hC6.holds hoC H5.out.2.2.2.1;have G:=cd_six hH6;have K6:=cd_six (hH6.far (p:=⟨b,1,none⟩) (fun e=>hbC e.symm) (.slice (some ⟨g,0,none⟩) (cl+1) cap));have g1:=hC6.cell (p:=⟨b,1,none⟩) hob d;have fg1:=(hC6.holds hob H5.out.2.2.2.2.2.2.hold).free 1;have H6:=hidH4 hC6 ho6 hat6 hl6;clear hC6 ho6 hat6 hl6 hg6 hH6;refine hK.out _ _ ?_ (fun hHeld3=>?_)
   ·(try dsimp only)
    first|exact D|exact E|exact G|exact K6
   clear hK K hHeld2
   (try go_frame)
   refine tkH 8 63 ?_;refine tkH 9 64 ?_;refine rdyH [10] ?_;refine AllReadyH.cons rfl (fun K hK=>?_) AllReadyH.nil;go_simp;refine hK.out _ _ ?_ (fun hHeld4=>?_)
   ·(try dsimp only)
    first|exact D|exact E|exact G|exact K6
   clear hK K hHeld3
   (try go_frame)
   refine wpAnyH_done (by kernel_rfl) ?_ _;go_wp2
   go_end0
   have hcl:=HCL.out;subst hcl;have hf:=cond_done (c:=⟨⟨cf,cn,ct⟩,x,y,z⟩) H5.out.1 H5.out.2.2.2.2.2.1 H6.out.1 H6.out.2.1 H6.out.2.2.1 H6.out.2.2.2 hgb;refine⟨rfl,?_⟩;rw[HRR.out];exact⟨_,_,_,rfl,hf.1,H5.out.2.1.trans hf.2⟩
  refine AllReadyH.cons (o:=⟨some 61,_,_,_,_,_⟩) rfl (fun K hK=>?_) AllReadyH.nil;go_simp;refine hK.out _ _ ?_ (fun hHeld1=>?_)
  ·(try dsimp only)
   first|exact D|exact E|exact G|exact K6
  clear hK K hHeld0
  (try go_frame)
  refine rdyH [4] ?_;refine AllReadyH.cons (o:=⟨some 59,_,_,_,_,_⟩) rfl (fun K hK=>?_) AllReadyH.nil;go_simp;refine hK.out _ _ ?_ (fun hHeld2=>?_)
  ·(try dsimp only)
   first|exact D|exact E|exact G|exact K6
  clear hK K hHeld1
  (try go_frame)
  refine rdyH [7] ?_;refine AllReadyH.cons (o:=⟨some 62,_,_,_,_,_⟩) rfl (fun K hK=>?_) AllReadyH.nil;refine step_append_lies _ (by rfl) _ _ _ (by rfl) 0 160 i0 _ 6 48 cds_under HZ.out.1 HZ.out.2.1 HZ.out.2.2.1 HZ.out.2.2.2 rfl (by omega) (.slice A cl cp) cl (rowCd cs) (by rfl) ((H5.out.2.2.1.alloc _).drew)
   ⟨wc.heap.size,0,none⟩ 1 1 [.string cf,.int .i64 cn,.string ct,.bool x,.bool y,.bool z] (by rfl) (by rfl) (World.news_of_block (cs:=#[.string cf,.int .i64 cn,.string ct,.bool x,.bool y,.bool z]) (t:=160) (fr:=(0,0)) (heap_alloc_new wc _)) (by simp[Value.oneCell'])
   (by omega) (by unfold maxLen;omega) (by omega) (Nat.zero_le _) (wc.heap.size+1) (by simp) ?_
  intro g cap w6 ho6 hg6 hat6 hl6;have hC6:Chg wc w6 (fun k=>(Value.slice A cl cp).ownBlock=some k):=(((Chg.refl wc _).alloc _).drew).trans (Chg.grown hg6) (fun _ _ h=>h.symm);have hgb:g≠b:=fun e=>by
   rcases hat6 with h|h
   ·exact hob (by rw[h,e])
   ·omega
  have hgC:g≠C:=fun e=>by
   rcases hat6 with h|h
   ·exact hoC (by rw[h,e])
   ·omega
  have hH6:=hC6.holds hoC H5.out.2.2.2.1;have G:=cd_six hH6;have K6:=cd_six (hH6.far (p:=⟨b,1,none⟩) (fun e=>hbC e.symm) (.slice (some ⟨g,0,none⟩) (cl+1) cap));have g1:=hC6.cell (p:=⟨b,1,none⟩) hob d;have fg1:=(hC6.holds hob H5.out.2.2.2.2.2.2.hold).free 1;have H6:=hidH4 hC6 ho6 hat6 hl6;clear hC6 ho6 hat6 hl6 hg6 hH6;refine hK.out _ _ ?_ (fun hHeld3=>?_)
  ·(try dsimp only)
   first|exact D|exact E|exact G|exact K6
  clear hK K hHeld2
  (try go_frame)
  refine tkH 8 63 ?_;refine tkH 9 64 ?_;refine rdyH [10] ?_;refine AllReadyH.cons rfl (fun K hK=>?_) AllReadyH.nil;go_simp;refine hK.out _ _ ?_ (fun hHeld4=>?_)
  ·(try dsimp only)
   first|exact D|exact E|exact G|exact K6
  clear hK K hHeld3
  (try go_frame)
  refine wpAnyH_done (by kernel_rfl) ?_ _;go_wp2
  go_end0
  have hcl:=HCL.out;subst hcl;have hf:=cond_done (c:=⟨⟨cf,cn,ct⟩,x,y,z⟩) H5.out.1 H5.out.2.2.2.2.2.1 H6.out.1 H6.out.2.1 H6.out.2.2.1 H6.out.2.2.2 hgb;refine⟨rfl,?_⟩;rw[HRR.out];exact⟨_,_,_,rfl,hf.1,H5.out.2.1.trans hf.2⟩
end
end Go.Proofs.YtkkebmciiiajeaaGreatDoor
namespace Go.Bd
open Go.RowKit
theorem posA_cons (b:At) (l:List At) (n:ByteArray):posA (b::l) n=if b.name.data.toList<n.data.toList then posA l n+1 else 0:=by
 unfold posA;rw[List.takeWhile_cons]
 by_cases h:b.name.data.toList<n.data.toList
 ·rw[if_pos h,if_pos (by simpa using h),List.length_cons]
 ·rw[if_neg h,if_neg (by simpa using h),List.length_nil]
theorem isA_lt {b:At}{l:List At}{n:ByteArray} (h:b.name.data.toList<n.data.toList):isA (b::l) n=isA l n:=by
 unfold isA;rw[posA_cons,if_pos h,List.getElem?_cons_succ]
theorem isA_ge {b:At}{l:List At}{n:ByteArray} (h:¬b.name.data.toList<n.data.toList):isA (b::l) n=decide (b.name=n):=by
 unfold isA;rw[posA_cons,if_neg h];rfl
theorem del_eq:∀{l:List At}{n:ByteArray},risesB l=true→delA l n=if isA l n then l.take (posA l n)++l.drop (posA l n+1) else l
 | [],n,_=>by unfold isA;rfl
 | b::l,n,hr=>by
  obtain⟨h1,h2⟩:=rises_tail hr;have ih:=del_eq (n:=n) h1
  by_cases hlt:b.name.data.toList<n.data.toList
  ·have hne:b.name≠n:=fun e=>by rw[e] at hlt;exact lt_asym hlt hlt
   have e:delA (b::l) n=b::delA l n:=by unfold delA;rw[List.filter_cons_of_pos (by simp[hne])]
   rw[e,isA_lt hlt,posA_cons,if_pos hlt,ih];cases isA l n<;>rfl
  ·rw[isA_ge hlt,posA_cons,if_neg hlt];have hall:∀a∈l,a.name≠n:=fun a ha e=>by
    have h3:=h2 a ha;rw[e] at h3;exact hlt h3
   have e:delA l n=l:=by
    unfold delA;exact List.filter_eq_self.2 (fun a ha=>by simp[hall a ha])
   by_cases hn:b.name=n
   ·rw[if_pos (by simp[hn])];have e2:delA (b::l) n=delA l n:=by unfold delA;rw[List.filter_cons_of_neg (by simp[hn])]
    rw[e2,e];rfl
   ·rw[if_neg (by simp[hn])];have e2:delA (b::l) n=b::delA l n:=by unfold delA;rw[List.filter_cons_of_pos (by simp[hn])]
    rw[e2,e]
theorem ins_eq:∀{l:List At}{a:At},insA l a=if isA l a.name then l.set (posA l a.name) a else l.take (posA l a.name)++[a]++l.drop (posA l a.name)
 | [],a=>by unfold isA;rfl
 | b::l,a=>by
  have ih:=ins_eq (l:=l) (a:=a)
  by_cases hlt:b.name.data.toList<a.name.data.toList
  ·have hne:a.name≠b.name:=fun e=>by rw[e] at hlt;exact lt_asym hlt hlt
   have hge:¬a.name.data.toList<b.name.data.toList:=fun h=>lt_asym h hlt
   have e:insA (b::l) a=b::insA l a:=by
    show (if a.name=b.name then _ else _)=_
    rw[if_neg hne,if_neg hge]
   rw[e,isA_lt hlt,posA_cons,if_pos hlt,ih];cases isA l a.name<;>rfl
  ·rw[isA_ge hlt,posA_cons,if_neg hlt]
   by_cases hn:b.name=a.name
   ·rw[if_pos (by simp[hn])]
    show (if a.name=b.name then _ else _)=_
    rw[if_pos hn.symm];rfl
   ·rw[if_neg (by simp[hn])];have hgt:a.name.data.toList<b.name.data.toList:=by
     rcases lt_tri a.name.data.toList b.name.data.toList with h|h|h
     ·exact h
     ·exfalso;refine hn ?_;cases hb:b.name
      cases ha:a.name
      rw[hb,ha] at h;simp at h;rw[h]
     ·exact absurd h hlt
    show (if a.name=b.name then _ else _)=_
    rw[if_neg (fun e=>hn e.symm),if_pos hgt];rfl
end Go.Bd
namespace Go.Proofs.YtkkebmciiiajeaaGreatDoor
open Go.RowKit Go.Bd
theorem flat_take {α:Type} (f:α→List Value) (k:Nat) (hf:∀a,(f a).length=k) (l:List α) (i:Nat) (hi:i≤l.length):(l.flatMap f).take (i*k)=(l.take i).flatMap f:=by
 have e:l.flatMap f=(l.take i).flatMap f++(l.drop i).flatMap f:=by rw[←List.flatMap_append,List.take_append_drop]
 have hl:((l.take i).flatMap f).length=i*k:=by rw[flat_len f k hf,List.length_take,Nat.min_eq_left hi]
 rw[e,List.take_append_of_le_length (Nat.le_of_eq hl.symm),List.take_of_length_le (Nat.le_of_eq hl)]
theorem flat_drop {α:Type} (f:α→List Value) (k:Nat) (hf:∀a,(f a).length=k) (l:List α) (i:Nat) (hi:i≤l.length):(l.flatMap f).drop (i*k)=(l.drop i).flatMap f:=by
 have e:l.flatMap f=(l.take i).flatMap f++(l.drop i).flatMap f:=by rw[←List.flatMap_append,List.take_append_drop]
 have hl:((l.take i).flatMap f).length=i*k:=by rw[flat_len f k hf,List.length_take,Nat.min_eq_left hi]
 rw[e,←hl,List.drop_left]
theorem row_one (l:List At):∀u∈rowAt l,u.oneCell'=true:=fun u hu=>by
 unfold rowAt atCells at hu;obtain⟨s,_,hs⟩:=List.mem_flatMap.1 hu
 rcases List.mem_cons.1 hs with rfl|hs
 ·rfl
 ·rw[List.mem_singleton.1 hs];rfl
theorem isA_at {l:List At}{n:ByteArray} (h:isA l n=true):posA l n<l.length∧∃a,l[posA l n]? = some a∧a.name=n:=by
 unfold isA at h;cases hq:l[posA l n]? with
 | none=>rw[hq] at h;cases h
 | some a =>
  rw[hq] at h;exact⟨(List.getElem?_eq_some_iff.1 hq).1,a,rfl,by simpa using h⟩
section
variable {w:World} {κ:Nat→Nat} {rb wm:Nat} {sv:Value} {v:Rv} {st:Ast} {stk:Stk}
def WordQ (w:World) (κ:Nat→Nat) (rb wm:Nat) (sv:Value) (v:Rv) (stk:Stk) (r:Ast) (w':World):Prop :=
 ∃κ' v',v'.sb=v.sb∧ARd w' κ' rb wm sv v' r stk∧Mv w w' κ κ'
theorem ARd.did (h:ARd w κ rb wm sv v st stk) (n:ByteArray) (hn:n.size≤1000000000) (ha:st.done.length≤1000000000000) :
  ∃w',(Instr.mapUpdate 81 (.map (some v.dm)) (.string n) (.agg #[])).run Tryz.prog w=.ok () w'∧ARd w' κ rb wm sv v { st with done:=putN st.done n } stk∧Mv w w' κ κ:=by
 obtain⟨w2,r2,m2,k2,z2,u2⟩:=set_store h.done h.uD n hn ha;have hM:Rest w w2 κ 3 κ:=⟨k2.mono (fun k _ hk=>.inr (by rw[show k=v.dm from hk];exact h.kD)),fun _ _=>rfl,fun k hk=>by rw[z2];exact h.lt k hk⟩;have hh2:Holds w2 rb tAr #[sv,v.av,.map (some wm),v.ov,.int .i64 (st.count:Int),.map (some v.dm),.map (some v.am),.map (some v.bm),v.lv,v.dv,v.fv]:=k2.holds (fun e=>by have:=h.kD;have:=h.kR;rw[show rb=v.dm from e] at this;omega) h.hold;exact⟨w2,r2,h.set_done hM hh2 m2 u2,hM.mv (by decide)⟩
theorem a_unset (h:ARd w κ rb wm sv v st stk) (hd:st.diags.length≤1000000000) (ha:st.done.length≤1000000000000) (hat:st.attrs.length≤1000000000) (hr:risesB st.attrs=true) (l:Ln) (rest:ByteArray) (hz:rest.size≤100000) :
  Calls Tryz.prog 59 #[.pointer (some ⟨rb,0,none⟩),lnV l,.string rest] w fun e w'=>e=.returned (.tuple #[])∧WordQ w κ rb wm sv v stk (unsetM l rest st) w':=by
 have hB:=(Below.refl w.heap.size w).alloc (Nat.le_refl _) (.cells #[.string l.file,.int .i64 l.no,.string l.text] 156);have h1:=h.below hB;have hm1:=Mv.below hB κ;have hbx:=fun w' hb n hn=>@boxed_cell w l w' hb n hn
 unfold boxed at hbx;unfold lnV;obtain⟨n,hnn⟩:∃n,w.heap.size=n:=⟨_,rfl⟩;obtain⟨W1,hW1⟩:∃W1,w.alloc (.cells #[.string l.file,.int .i64 l.no,.string l.text] 156)=W1:=⟨_,rfl⟩;rw[hW1] at h1 hm1 hbx;have HB:=hidH4 h1 hm1 hbx hnn;clear h1 hm1 hbx hB h;have hU:=unset0_any rest W1 hz;unfold unsetM;have HR:=Lib.hid hr;cases hq:nameB rest.data.toList
 ·rw[hq] at hU;have HU:=Lib.hid hU;clear hU hq hr
  go_enter Tryz.func59,Tryz.ntmps59
  go_wp2_with fail
  (try rw[hW1])
  (try rw[hnn])
  clear hW1 hnn;refine HU.out.mono ?_;rintro e w2 ⟨rfl,hb2⟩;have h2:=HB.out.1.below hb2;obtain⟨d0,d1,d2⟩:=HB.out.2.2.1 w2 hb2 n HB.out.2.2.2;have H2:=hidH2 h2 (HB.out.2.1.trans (Mv.below hb2 κ));clear h2 hb2
  go_wp2_with fail
  refine (a_tell H2.out.1 l.file l.text l.no 3 l.text hd).mono ?_;rintro e w4 ⟨rfl,κ',dv',hr4,hm4⟩;go_wp2;refine bodyPost_ret (results_none rfl _ _ _) rfl ?_;exact⟨rfl,κ',{ v with dv:=dv' },rfl,hr4,H2.out.2.trans hm4⟩
 ·rw[hq] at hU;have HU:=Lib.hid hU;clear hU hq hr
  go_enter Tryz.func59,Tryz.ntmps59
  go_wp2_with fail
  (try rw[hW1])
  (try rw[hnn])
  clear hW1 hnn;refine HU.out.mono ?_;rintro e w2 ⟨rfl,hb2⟩;have h2:=HB.out.1.below hb2;have c5:=h2.hold.cell 5;simp at c5;obtain⟨w3,r3,h3,m3⟩:=h2.did rest (by omega) ha;have H3:=hidH2 h3 ((HB.out.2.1.trans (Mv.below hb2 κ)).trans m3);clear h2 hb2 h3 m3
  go_wp2_with fail
  refine (a_where H3.out.1 hat HR.out rest).mono ?_;rintro e w4 ⟨rfl,hb4⟩;have h4:=H3.out.1.below hb4;have H4:=hidH2 h4 (H3.out.2.trans (Mv.below hb4 κ));have hdel:=del_eq (n:=rest) HR.out;dsimp only at hdel ⊢;cases hi:isA st.attrs rest
  ·rw[hi] at hdel;have HD:=Lib.hid (hdel.trans (if_neg (by decide)));clear hdel hi h4 hb4;go_wp2
   go_end0
   refine⟨rfl,κ,v,rfl,?_,H4.out.2⟩;rw[HD.out];exact H4.out.1
  ·rw[hi] at hdel;have hpos:=(isA_at hi).1;have HD:=Lib.hid (hdel.trans (if_pos rfl));have c1:=h4.hold.cell 1;simp at c1;have hDl:=delete_any (i:=posA st.attrs rest) h4.attrs (row_one _) hpos hat;have HX:=Lib.hid hDl;clear hdel hi h4 hb4 hDl;generalize hpp:posA st.attrs rest=pp at *;have HPP:=Lib.hid hpp;clear hpp
   go_wp2_with fail
   refine HX.out.mono ?_;rintro e w5 ⟨x,rfl,hxo,ho5,hC5⟩;obtain⟨A',cp',hx,_⟩:=own_rowL ho5;subst hx;have hkr:v.av.ownBlock≠some rb:=fun e=>by have:=H4.out.1.kAt rb e;have:=H4.out.1.kR;omega
   have hh5:=hC5.holds hkr H4.out.1.hold;have k1:=hh5.cell 1;have f1:=hh5.free 1;simp at k1;have hS:=Chg.set w5 ⟨rb,1,none⟩ (.slice A' (st.attrs.length-1) cp');have hR:Rest w4 (w5.setCell ⟨rb,1,none⟩ (.slice A' (st.attrs.length-1) cp')) κ 6 κ:=⟨(hC5.mono (T:=fun k=>κ k=1∨κ k=6) (fun k _ hk=>.inr (H4.out.1.kAt k hk))).trans hS (fun k _ hk=>.inl (by rw[show k=rb from hk];exact H4.out.1.kR)),fun _ _=>rfl,fun k hk=>Nat.lt_of_lt_of_le (H4.out.1.lt k hk) (Nat.le_trans hC5.size hS.size)⟩;have hrow:(w5.setCell ⟨rb,1,none⟩ (.slice A' (st.attrs.length-1) cp')).ownsRow 0 tAt 2 (.slice A' (st.attrs.length-1) cp') (delA st.attrs rest).length (rowAt (delA st.attrs rest)):=by
    rw[HD.out];have e1:(st.attrs.take pp++st.attrs.drop (pp+1)).length=st.attrs.length-1:=by rw[List.length_append,List.length_take,List.length_drop];omega
    have e2:rowAt (st.attrs.take pp++st.attrs.drop (pp+1))=(rowAt st.attrs).take (pp*2)++(rowAt st.attrs).drop ((pp+1)*2):=by
     unfold rowAt;rw[List.flatMap_append,flat_take atCells 2 (fun _=>rfl) _ _ (by omega),flat_drop atCells 2 (fun _=>rfl) _ _ (by omega)]
    rw[e1,e2];exact ownsRow_setCell_other ho5 (a:=⟨rb,1,none⟩) (by rw[hxo];exact hkr) (.slice A' (st.attrs.length-1) cp')
   have H5:=hidH2 (H4.out.1.set_attrs hR (hh5.set 1 (.slice A' (st.attrs.length-1) cp')) hrow (fun k hk=>H4.out.1.kAt k (by rw[←hxo];exact hk))) (H4.out.2.trans (hR.mv (by decide)));clear hxo ho5 hC5 hkr hh5 hS hR hrow;go_wp2
   first|refine bodyPost_ret (results_none rfl _ _ _) rfl ?_|go_end0
   exact⟨rfl,κ,{ v with av:=.slice A' (st.attrs.length-1) cp' },rfl,H5.out.1,H5.out.2⟩
end
theorem row_set:∀{l:List At}{i:Nat}{a:At} (u:ByteArray),l[i]? = some a→(rowAt l).set (i*2+1) (.string u)=rowAt (l.set i ⟨a.name,u⟩)
 | [],i,a,u,h=>by simp at h
 | b::l,0,a,u,h=>by cases h;rfl
 | b::l,i+1,a,u,h=>by
  have ih:=row_set (l:=l) (i:=i) u (by simpa using h);have e:(i+1)*2+1=(i*2+1)+2:=by omega
  rw[e]
  show Value.string b.name::Value.string b.value::(rowAt l).set (i*2+1) (.string u)=_
  rw[ih];rfl
theorem asks_keep:∀(l:List ByteArray) (s:Ast),(s.asks l).diags=s.diags∧(s.asks l).attrs=s.attrs∧(s.asks l).done=s.done
 | [],s=>⟨rfl,rfl,rfl⟩
 | n::l,s=>by
  have h:=asks_keep l (s.ask n);have e:(s.ask n).diags=s.diags∧(s.ask n).attrs=s.attrs∧(s.ask n).done=s.done:=by
   unfold Ast.ask;split
   ·exact⟨rfl,rfl,rfl⟩
   ·exact⟨rfl,rfl,rfl⟩
  exact⟨h.1.trans e.1,h.2.1.trans e.2.1,h.2.2.trans e.2.2⟩
theorem word_no {s:ByteArray} (h:¬0≤Lib.indexAny s.data.toList [32,9]):wordB s.data.toList=(s.data.toList,[]):=by unfold wordB;rw[if_neg h]
theorem word_at {s:ByteArray}{k:Nat} (h:Lib.indexAny s.data.toList [32,9]=(k:Int)):wordB s.data.toList=(s.data.toList.take k,trim (s.data.toList.drop k)):=by
 unfold wordB;rw[h,if_pos (by omega)];rfl
theorem word_size (s:Bs):(wordB s).1.length≤s.length∧(wordB s).2.length≤s.length:=by
 unfold wordB;split
 ·refine⟨by rw[List.length_take];omega,?_⟩;have h:=trim_le (s.drop (Lib.indexAny s [32,9]).toNat);rw[List.length_drop] at h
  show (trim _).length≤_
  omega
 ·exact⟨Nat.le_refl _,Nat.zero_le _⟩
theorem ofB_ext (s:ByteArray) (k:Nat):s.extract 0 k=ofB (s.data.toList.take k):=by rw[←ofB_lst (s.extract 0 k),ext_lst];rfl
theorem idx_le:∀(s g:Bs),Lib.indexAny s g<s.length∨s=[]
 | [],_=>.inr rfl
 | b::l,g=>by
  left;have ih:=idx_le l g
  show (if g.contains b then (0:Int) else if Lib.indexAny l g == -1 then -1 else Lib.indexAny l g+1)<_
  rw[List.length_cons];split
  ·omega
  ·split
   ·omega
   ·rename_i h1 h2
    rcases ih with h|h
    ·omega
    ·subst h;exact absurd (show (Lib.indexAny [] g == -1)=true from rfl) h2
section
variable {w:World} {κ:Nat→Nat} {rb wm:Nat} {sv:Value} {v:Rv} {st:Ast} {stk:Stk}
theorem fillT_size {l:List At} (hl:∀a∈l,a.value.size≤1024) (s:ByteArray) (hs:s.size≤1000000):(fillT l s).size≤342000000:=by
 unfold fillT;rw[size_ofB];have h:=(fillB_len hl s.size s.data.toList []).1;rw[size_lst] at h;omega
theorem a_set (h:ARd w κ rb wm sv v st stk) (hv:Vals st) (hd:st.diags.length≤1000000000) (ha:st.asked.length≤100000000000) (hdn:st.done.length≤1000000000000) (hat:st.attrs.length≤1000000000) (hr:risesB st.attrs=true) (l:Ln) (rest:ByteArray) (hz:rest.size≤100000) :
  Calls Tryz.prog 58 #[.pointer (some ⟨rb,0,none⟩),lnV l,.string rest] w fun e w'=>e=.returned (.tuple #[])∧WordQ w κ rb wm sv v stk (setM l rest.data.toList st) w':=by
 have hB:=(Below.refl w.heap.size w).alloc (Nat.le_refl _) (.cells #[.string l.file,.int .i64 l.no,.string l.text] 156);have h1:=h.below hB;have hm1:=Mv.below hB κ;have hbx:=fun w' hb n hn=>@boxed_cell w l w' hb n hn
 unfold boxed at hbx;unfold lnV;obtain⟨n,hnn⟩:∃n,w.heap.size=n:=⟨_,rfl⟩;obtain⟨W1,hW1⟩:∃W1,w.alloc (.cells #[.string l.file,.int .i64 l.no,.string l.text] 156)=W1:=⟨_,rfl⟩;rw[hW1] at h1 hm1 hbx;have HB:=hidH4 h1 hm1 hbx hnn;have HX:=Lib.hid h.lt;clear h1 hm1 hbx hB h;have HR:=hidH2 hr hv;clear hr hv;have hI:=indexAnyX_any rest ⟨#[32,9]⟩ W1 (by decide) (by decide) (by decide) (by omega);have e329:(⟨#[32,9]⟩:ByteArray).data.toList=[32,9]:=rfl;rw[e329] at hI;obtain⟨ix,hix⟩:∃ix,Lib.indexAny rest.data.toList [32,9]=ix:=⟨_,rfl⟩;rw[hix] at hI;have HI:=hidH2 hI hix;clear hI hix e329
 go_enter Tryz.func58,Tryz.ntmps58
 go_wp2_with fail
 (try rw[hW1])
 (try rw[hnn])
 clear hW1 hnn;refine HI.out.1.mono ?_;rintro e w2 ⟨rfl,hb2⟩;have H2:=Lib.hid hb2;clear hb2
 go_upto_if 17 with fail
 go_cut [6,7] (fun s6 s7 wx=>s6=.string (ofB (wordB rest.data.toList).1)∧s7=.string (ofB (wordB rest.data.toList).2)∧Hid (Below W1.heap.size W1 wx))
 case first =>
  by_cases h0:0≤ix
  ·obtain⟨k,rfl⟩:∃k:Nat,ix=k:=⟨ix.toNat,by omega⟩;have hw:=word_at HI.out.2;have hkl:k≤rest.size:=by
    rcases idx_le rest.data.toList [32,9] with h|h
    ·rw[HI.out.2,size_lst] at h;omega
    ·have h2:=HI.out.2;rw[h] at h2;have h2:(-1:Int)=k:=h2;omega
   obtain⟨sub,hsub⟩:∃sub,rest.extract k rest.size=sub:=⟨_,rfl⟩;have hsl:sub.data.toList=rest.data.toList.drop k:=by rw[←hsub,ext_lst,List.take_of_length_le (by rw[size_lst];exact Nat.le_refl _)]
   have htr:=fun W=>strTrim_any sub W (by rw[←size_lst,hsl,List.length_drop,size_lst];omega)
   rw[hsl] at htr;unfold strV at htr;have HT:=hidH3 htr hsub hw;clear htr hsub hw hsl
   go_wp2_with fail
   go_region_with (go_at_call 50;rw[HT.out.2.1];refine (HT.out.1 _).mono ?_;rintro e w4 ⟨rfl,hb4⟩)
   all_goals (go_wp2_with fail;go_meet;(case rel=>refine⟨by rw[HT.out.2.2,ofB_ext],by rw[HT.out.2.2];rfl,Lib.hid ?_⟩;first|exact H2.out.trans (hb4.mono H2.out.size)|exact (H2.out.trans (hb4.mono H2.out.size)).drew|exact H2.out.drew.trans (hb4.mono H2.out.size)))
  ·have hw:=Lib.hid (word_no (by rw[HI.out.2];exact h0))
   go_wp2_with fail
   go_meet
   case rel =>
    refine⟨?_,?_,Lib.hid H2.out⟩
    ·rw[hw.out,ofB_lst]
    ·rw[hw.out];rfl
 case rest =>
  obtain⟨h6,h7,HW⟩:=hcut;subst h6;subst h7;obtain⟨nm,hnm⟩:∃nm,ofB (wordB rest.data.toList).1=nm:=⟨_,rfl⟩;obtain⟨vl,hvl⟩:∃vl,ofB (wordB rest.data.toList).2=vl:=⟨_,rfl⟩;have hnd:(wordB rest.data.toList).1=nm.data.toList:=by rw[←hnm];rfl
  have hws:=word_size rest.data.toList;have hnz:nm.size≤rest.size:=by rw[←size_lst,←hnd,←size_lst rest];exact hws.1
  have hvz:vl.size≤rest.size:=by rw[←hvl,size_ofB,←size_lst rest];exact hws.2
  rw[hnm,hvl];have hM:setM l rest.data.toList st=if nameB nm.data.toList&&validB (fillT st.attrs vl).data.toList then { st.fill vl with done:=putN (st.fill vl).done nm,attrs:=insA (st.fill vl).attrs ⟨nm,fillT st.attrs vl⟩ } else (st.fill vl).tell l 3 l.text:=by
   unfold setM;rw[hvl,hnm,hnd]
  clear hnd hws hnm hvl;have hwd:=HB.out.1.below HW.out;have hfl:=a_fill hwd HR.out.2 hat vl (by omega) ha;have hts:=fillT_size HR.out.2 vl (by omega);obtain⟨ft,hft⟩:∃ft,fillT st.attrs vl=ft:=⟨_,rfl⟩;rw[hft] at hfl hts hM;have hk:=asks_keep (fillN st.attrs vl) st;have hst:st.asks (fillN st.attrs vl)=st.fill vl:=rfl;rw[hst] at hk;obtain⟨st1,hs1⟩:∃st1,st.fill vl=st1:=⟨_,rfl⟩;rw[hs1] at hfl hk hM;have HFL:=hidH3 hfl hk hft;have hd1:st1.diags.length≤1000000000:=by rw[hk.1];exact hd
  have hat1:st1.attrs.length≤1000000000:=by rw[hk.2.1];exact hat
  have hdn1:st1.done.length≤1000000000000:=by rw[hk.2.2];exact hdn
  have HR1:Hid (risesB st1.attrs=true):=Lib.hid (by rw[hk.2.1];exact HR.out.1);have HM0:=Lib.hid hM;clear hfl hk hft hst hs1 hwd hM
  go_wp2_with fail
  refine HFL.out.1.mono ?_;rintro e w3 ⟨rfl,h3,hm3⟩;have H3:=hidH3 h3 ((HB.out.2.1.trans (Mv.below HW.out κ)).trans hm3) hm3;clear h3 hm3;have hS:=set0_any nm ft w3 (by omega) (by omega);obtain⟨bq,hbq⟩:∃bq,(nameB nm.data.toList&&validB ft.data.toList)=bq:=⟨_,rfl⟩;have hM:=HM0.out;rw[hbq] at hS hM;have HM:=Lib.hid hM;have HBQ:=Lib.hid hbq;have HS:=Lib.hid hS;clear hbq hS hM HM0;cases bq
  ·go_wp2_with fail
   refine HS.out.mono ?_;rintro e w4 ⟨⟨x,rfl⟩,hb4⟩;have h4:=H3.out.1.below hb4;have hm4:=H3.out.2.1.trans (Mv.below hb4 κ);have hbx:=H3.out.2.2;have hB0:=HB.out.1;obtain⟨d0,d1,d2⟩:w4.cell? ⟨n,0,none⟩=some (.string l.file)∧w4.cell? ⟨n,1,none⟩=some (.int .i64 l.no)∧w4.cell? ⟨n,2,none⟩=some (.string l.text):=by
    obtain⟨c0,c1,c2⟩:=HB.out.2.2.1 wc HW.out n HB.out.2.2.2;have hk0:κ n=0:=by
     by_cases e:κ n=0
     ·exact e
     ·exact absurd (HX.out n e) (by have:=HB.out.2.2.2;omega)
    have f:=fun i (u:Value) (hc:wc.cell? ⟨n,i,none⟩=some u)=>(hb4.cell (p:=⟨n,i,none⟩) (by have:=World.block_lt_of_cell? _ _ (hbx.chg.cell (p:=⟨n,i,none⟩) (fun e=>e hk0) hc);exact this)).trans (hbx.chg.cell (p:=⟨n,i,none⟩) (fun e=>e hk0) hc)
    exact⟨f 0 _ c0,f 1 _ c1,f 2 _ c2⟩
   have H4:=hidH2 h4 hm4;clear h4 hm4 hbx hB0 hb4
   go_wp2_with fail
   refine (a_tell H4.out.1 l.file l.text l.no 3 l.text hd1).mono ?_;rintro e w5 ⟨rfl,κ',dv',hr5,hm5⟩;go_wp2;refine bodyPost_ret (results_none rfl _ _ _) rfl ?_;refine⟨rfl,?_⟩;rw[HM.out];exact⟨κ',{ v with dv:=dv' },rfl,hr5,H4.out.2.trans hm5⟩
  ·go_wp2_with fail
   refine HS.out.mono ?_;rintro e w4 ⟨⟨x,rfl⟩,hb4⟩;have h4:=H3.out.1.below hb4;have c5:=h4.hold.cell 5;simp at c5;obtain⟨w5,r5,h5,m5⟩:=h4.did nm (by omega) hdn1;have H5:=hidH2 h5 ((H3.out.2.1.trans (Mv.below hb4 κ)).trans m5);clear h4 hb4 h5 m5
   go_wp2_with fail
   refine (a_where H5.out.1 hat1 HR1.out nm).mono ?_;rintro e w6 ⟨rfl,hb6⟩;have h6:=H5.out.1.below hb6;have H6:=hidH2 h6 (H5.out.2.trans (Mv.below hb6 κ));have hins:=ins_eq (l:=st1.attrs) (a:=⟨nm,ft⟩);dsimp only at hins ⊢;have hple:=posA_le st1.attrs nm;have c1:=h6.hold.cell 1;simp at c1;have hkr:v.av.ownBlock≠some rb:=fun e=>by have:=H6.out.1.kAt rb e;have:=H6.out.1.kR;omega
   have HKR:=Lib.hid hkr;clear hkr;cases hi:isA st1.attrs nm
   ·rw[hi] at hins;have HD:=Lib.hid (hins.trans (if_neg (by decide)));have hb7:=(Below.refl w6.heap.size w6).alloc (Nat.le_refl _) (.cells #[.string nm,.string ft] 47);have h7:=h6.below hb7;have hX:=insertA_any (i:=posA st1.attrs nm) h7.attrs (row_one _) hple hat1 (Holds.new w6 47 #[.string nm,.string ft]) (fun e=>by have h1:=h6.lt w6.heap.size (by rw[h6.kAt _ e];decide);omega);have H7:=hidH3 h7 (H6.out.2.trans (Mv.below hb7 κ)) hX;clear hins hi h6 hb6 hb7 h7 hX;generalize hpp:posA st1.attrs nm=pp at *;have HPP:=Lib.hid hpp;clear hpp
    go_wp2_with fail
    refine H7.out.2.2.mono ?_;rintro e w8 ⟨g,cap,rfl,ho8,hC8,hg8,hgl8⟩;have hh8:=hC8.holds HKR.out H7.out.1.hold;have k1:=hh8.cell 1;have f1:=hh8.free 1;simp at k1;have hgb:g≠rb:=fun e=>by
     rcases hg8 with h|h
     ·exact HKR.out (by rw[h,e])
     ·have:=H7.out.1.hold.lt;omega
    have hS:=Chg.set w8 ⟨rb,1,none⟩ (.slice (some ⟨g,0,none⟩) (st1.attrs.length+1) cap);have H8:=hidH7 ho8 hC8 hg8 hgl8 hh8 hgb hS;clear ho8 hC8 hg8 hgl8 hh8 hgb hS;go_wp2
    first|refine bodyPost_ret (results_none rfl _ _ _) rfl ?_|go_end0
    obtain⟨ho8,hC8,hg8,hgl8,hh8,hgb,hS⟩:=H8.out;obtain⟨W7,hW7⟩:∃W7,w6.alloc (.cells #[.string nm,.string ft] 47)=W7:=⟨_,rfl⟩;obtain⟨h7,hm7,_⟩:=H7.out;rw[hW7] at h7 hm7 hC8 hg8;have hz:(w8.setCell ⟨rb,1,none⟩ (.slice (some ⟨g,0,none⟩) (st1.attrs.length+1) cap)).heap.size=w8.heap.size:=by simp[World.setCell]
    have hR:Rest W7 (w8.setCell ⟨rb,1,none⟩ (.slice (some ⟨g,0,none⟩) (st1.attrs.length+1) cap)) κ 6 (recol κ W7.heap.size g 6):=⟨(hC8.mono (T:=fun k=>κ k=1∨κ k=6) (fun k _ hk=>.inr (h7.kAt k hk))).trans hS (fun k _ hk=>.inl (by rw[show k=rb from hk];exact h7.kR)),fun k hk=>recol_old hk,fun k hk=>by
     rw[hz];unfold recol at hk;split at hk
     ·have:=hC8.size;omega
     ·split at hk
      ·omega
      ·exact absurd rfl hk⟩
    have e1:(st1.attrs.take pp++[(⟨nm,ft⟩:At)]++st1.attrs.drop pp).length=st1.attrs.length+1:=by simp;omega
    have e2:rowAt (st1.attrs.take pp++[(⟨nm,ft⟩:At)]++st1.attrs.drop pp)=(rowAt st1.attrs).take (pp*2)++[.string nm,.string ft]++(rowAt st1.attrs).drop (pp*2):=by
     unfold rowAt;rw[List.flatMap_append,List.flatMap_append,flat_take atCells 2 (fun _=>rfl) _ _ hple,flat_drop atCells 2 (fun _=>rfl) _ _ hple];rfl
    have hrow:(w8.setCell ⟨rb,1,none⟩ (.slice (some ⟨g,0,none⟩) (st1.attrs.length+1) cap)).ownsRow 0 tAt 2 (.slice (some ⟨g,0,none⟩) (st1.attrs.length+1) cap) (st1.attrs.take pp++[(⟨nm,ft⟩:At)]++st1.attrs.drop pp).length (rowAt (st1.attrs.take pp++[(⟨nm,ft⟩:At)]++st1.attrs.drop pp)):=by
     rw[e1,e2];exact ownsRow_setCell_other ho8 (a:=⟨rb,1,none⟩) (fun e=>hgb (by injection e)) _
    have hA:=h7.set_attrs hR (hh8.set 1 _) hrow (fun k hk=>by
     have e1:g=k:=by simpa [Value.ownBlock] using hk
     rw[←e1];refine recol_at ?_ (fun hk=>h7.lt _ (by omega))
     rcases hg8 with h1|h1
     ·exact .inl (h7.kAt g h1)
     ·exact .inr h1)
    refine⟨rfl,?_⟩;rw[HM.out,if_pos trivial,HD.out];exact⟨_,{ v with av:=.slice (some ⟨g,0,none⟩) (st1.attrs.length+1) cap },rfl,hA,hm7.trans (hR.mv (by decide))⟩
   ·rw[hi] at hins;obtain⟨hpl,a0,ha0,hna⟩:=isA_at hi;have HD:=Lib.hid (hins.trans (if_pos rfl));obtain⟨g,cap,hav,hcap,_,hgl,hcl,hfz⟩:=own_rowN h6.attrs (by show 0<st1.attrs.length;omega);dsimp only at hav hcap hcl;rw[hav] at c1;have q1:=hcl (posA st1.attrs nm*2+1) (.string a0.value) (flat_get atCells 2 (fun _=>rfl) (j:=posA st1.attrs nm) ha0 rfl);have f1:=hfz (posA st1.attrs nm*2+1);have H7:=hidH3 hav ha0 hna;clear hins hi h6 hb6 hav hcl hfz ha0 hna;generalize hpp:posA st1.attrs nm=pp at *;have HPP:=Lib.hid hpp;clear hpp;go_wp2
    first|refine bodyPost_ret (results_none rfl _ _ _) rfl ?_|go_end0
    obtain⟨hav,ha0,hna⟩:=H7.out;obtain⟨h6,hm6⟩:=H6.out;have hg6:κ g=6:=h6.kAt g (by rw[hav];rfl);have hS:=Chg.set w6 ⟨g,pp*2+1,none⟩ (.string ft);have hR:Rest w6 (w6.setCell ⟨g,pp*2+1,none⟩ (.string ft)) κ 6 κ:=⟨hS.mono (fun k _ hk=>.inr (by have e:k=g:=hk;rw[e];exact hg6)),fun _ _=>rfl,fun k hk=>Nat.lt_of_lt_of_le (h6.lt k hk) hS.size⟩;have ho:=h6.attrs;dsimp only at ho;rw[hav] at ho;have hrow:=own_setN ho (pp*2+1) (.string ft);rw[row_set ft ha0,hna,←hav] at hrow;have hA:=h6.set_attrs hR (hS.holds (fun e=>by have e:rb=g:=e;have h1:=h6.kR;rw[e] at h1;omega) h6.hold) (l:=st1.attrs.set pp ⟨nm,ft⟩) (by rw[List.length_set];exact hrow) (fun k hk=>h6.kAt k hk);refine⟨rfl,?_⟩;rw[HM.out,if_pos trivial,HD.out];exact⟨_,_,rfl,hA,hm6.trans (hR.mv (by decide))⟩
end
end Go.Proofs.YtkkebmciiiajeaaGreatDoor
namespace Go.Bd
def cutsC (x:UInt8):Bs→List Bs
 | []=>[[]]
 | c::l=>if c==x then []::cutsC x l else match cutsC x l with
  | []=>[[c]]
  | p::ps=>(c::p)::ps
theorem cutsC_ne (x:UInt8) (l:Bs):cutsC x l≠[]:=by
 cases l with
 | nil=>simp[cutsC]
 | cons c l =>
  rw[cutsC];split
  ·simp
  ·split<;>simp
theorem dots_cuts:∀l:Bs,dotsB l=cutsC 46 l
 | []=>rfl
 | c::l=>by
  rw[dotsB,cutsC,dots_cuts l];split
  ·rfl
  ·cases cutsC 46 l<;>rfl
theorem nls_cuts:∀l:Bs,nlsB l=cutsC 10 l
 | []=>rfl
 | c::l=>by
  rw[nlsB,cutsC,nls_cuts l];split
  ·rfl
  ·cases cutsC 10 l<;>rfl
theorem cindex_eq (x:UInt8) (l:Bs):Lib.index (x::l) [x]=0:=by rw[Lib.index];simp[List.isPrefixOf]
theorem cindex_ne (x c:UInt8) (l:Bs) (h:c≠x):Lib.index (c::l) [x]=if Lib.index l [x] == -1 then -1 else Lib.index l [x]+1:=by
 have hp:([x]:List UInt8).isPrefixOf (c::l)=false:=by simp[List.isPrefixOf];exact fun e=>h e.symm
 rw[Lib.index,hp];simp
theorem splitK_cuts (x:UInt8):∀l:Bs,Lib.splitK [x] 0 (Lib.count l [x]) l=cutsC x l
 | []=>by rw[Lib.count_one];rfl
 | c::l=>by
  have ih:=splitK_cuts x l
  by_cases h:c=x
  ·subst h;rw[Lib.count_cons_eq,Nat.add_comm,Lib.splitK,cindex_eq,if_neg (by decide),cutsC,if_pos (by simp),←ih];simp
  ·rw[Lib.count_cons_ne c x l h,cutsC,if_neg (by simpa using h),←ih];cases hk:Lib.count l [x] with
   | zero=>rfl
   | succ k =>
    rw[Lib.splitK,Lib.splitK,cindex_ne x c l h]
    by_cases hi:Lib.index l [x]=-1
    ·simp[hi]
    ·have hge:=Lib.index_ge l [x];obtain⟨i,hi'⟩:∃i:Nat,Lib.index l [x]=i:=⟨(Lib.index l [x]).toNat,by omega⟩;have e1:((i:Int) == -1)=false:=by simp
     have e2:(((i:Int)+1) == -1)=false:=by simp;omega
     have e3:((i:Int)+1).toNat=i+1:=by omega
     rw[hi',e1];simp[e2,e3]
theorem splitB_cuts (x:UInt8) (s:ByteArray):(Lib.splitB ⟨#[x]⟩ 0 (Lib.countB s ⟨#[x]⟩) s).map (·.data.toList)=cutsC x s.data.toList:=by
 rw[Lib.splitB_data];exact splitK_cuts x _
theorem splitB_ofB (x:UInt8) (s:ByteArray):Lib.splitB ⟨#[x]⟩ 0 (Lib.countB s ⟨#[x]⟩) s=(cutsC x s.data.toList).map ofB:=by
 rw[←splitB_cuts,List.map_map];have e:(ofB ∘ fun b:ByteArray=>b.data.toList)=id:=by funext b;exact ofB_lst b
 rw[e,List.map_id]
theorem cutsC_len (x:UInt8):∀l:Bs,(cutsC x l).length≤l.length+1∧∀p∈cutsC x l,p.length≤l.length
 | []=>⟨Nat.le_refl _,fun p h=>by rw[cutsC,List.mem_singleton] at h;subst h;exact Nat.le_refl _⟩
 | c::l=>by
  have ih:=cutsC_len x l;rw[cutsC];split
  ·refine⟨by rw[List.length_cons,List.length_cons];omega,fun p h=>?_⟩
   rcases List.mem_cons.1 h with rfl|h
   ·exact Nat.zero_le _
   ·have:=ih.2 p h;rw[List.length_cons];omega
  ·split
   ·rename_i h;exact absurd h (cutsC_ne x l)
   ·rename_i p ps h;rw[h] at ih;refine⟨by rw[List.length_cons,List.length_cons];have:=ih.1;rw[List.length_cons] at this;omega,fun q hq=>?_⟩
    rcases List.mem_cons.1 hq with rfl|hq
    ·have:=ih.2 p (by simp);rw[List.length_cons,List.length_cons];omega
    ·have:=ih.2 q (by simp[hq]);rw[List.length_cons];omega
end Go.Bd
namespace Go.Proofs.YtkkebmciiiajeaaGreatDoor
open Go.RowKit Go.Bd
theorem pathAll_any {w:World}{g n c:Nat}{l:List ByteArray} (hl:∀(k:Nat) s,l[k]? = some s→w.cell? ⟨g,k,none⟩=some (.string s)) (hn:l.length=n) (hg:g<w.heap.size) (hnz:n≤1000000) (hs:∀s∈l,s.size≤100000) :
  Calls Tryz.prog 51 #[.func (.func 52) #[] #[],.slice (some ⟨g,0,none⟩) n c] w fun e w'=>e=.returned (.bool (l.all (fun s=>nameB s.data.toList)&&decide (0<n)))∧Below w.heap.size w w':=by
 have HL:=hidH3 hl hn hs;clear hl hn hs
 go_enter Tryz.func51,Tryz.ntmps51
 go_wp2_with fail
 go_loopg [9] n (fun q i wr=>∃k:Nat,k+q=n∧i=.int .i64 (k:Int)∧wr=w∧Hid ((l.take k).all (fun s=>nameB s.data.toList)=true))
 case atStart=>exact⟨0,by omega,rfl,rfl,Lib.hid rfl⟩
 case round =>
  obtain⟨k,hk,rfl,rfl,HA⟩:=hrel
  by_cases hlt:k<n
  ·obtain⟨s,hsk⟩:∃s,l[k]? = some s:=⟨_,List.getElem?_eq_getElem (by rw[HL.out.2.1];exact hlt)⟩;have q0:=HL.out.1 k s hsk;have hN:=name_any s wr (by have:=HL.out.2.2 s (List.mem_of_getElem? hsk);omega);cases hb:nameB s.data.toList
   ·rw[hb] at hN;have HN:=hidH3 hN hb hsk;clear hN hb hsk
    go_wp2_with (go_at_call 52;refine HN.out.1.mono ?_;rintro e w2 ⟨rfl,rfl⟩)
    go_ret
    refine⟨ret_bool ?_,Below.refl _ _⟩
    symm
    rw[Bool.and_eq_false_iff];left;rw[List.all_eq_false];exact⟨s,List.mem_of_getElem? HN.out.2.2,by rw[HN.out.2.1];decide⟩
   ·rw[hb] at hN;have HN:=hidH3 hN hb hsk;clear hN hb hsk
    go_wp2_with (go_at_call 52;refine HN.out.1.mono ?_;rintro e w2 ⟨rfl,rfl⟩)
    go_roundg (gk-1)
    case measure=>omega
    case rel=>exact⟨k+1,by omega,by go_num,rfl,Lib.hid (by rw[List.take_add_one,HN.out.2.2,List.all_append,HA.out];simp[HN.out.2.1])⟩
  ·obtain rfl:k=n:=by omega
   go_wp2_with fail
   go_ret
   refine⟨ret_bool ?_,Below.refl _ _⟩;have h:=HA.out;rw[List.take_of_length_le (by rw[HL.out.2.1];exact Nat.le_refl _)] at h;rw[h,Bool.true_and]
   first|done|rfl|simp
theorem path_any (s:ByteArray) (w:World) (hs:s.size≤100000){m:Int} (hm:Glob m w) :
  Calls Tryz.prog 29 #[.string s] w fun e w'=>e=.returned (.bool (pathB s.data.toList))∧Below w.heap.size w w':=by
 have hS:=Tryz.strings_Split s ⟨#[46]⟩ m w (by omega) hm.1 (by decide);have hcut:=splitB_ofB 46 s;have hlen:=Lib.splitB_all ⟨#[46]⟩ (by decide) 0 _ s rfl;have hcl:=cutsC_len 46 s.data.toList;rw[size_lst] at hcl;rw[hcut] at hS hlen;rw[List.length_map] at hlen;rw[←hlen] at hS;obtain⟨L,hL⟩:∃L,(cutsC 46 s.data.toList).map ofB=L:=⟨_,rfl⟩;have hLn:(cutsC 46 s.data.toList).length=L.length:=by rw[←hL,List.length_map]
 rw[hL,hLn] at hS;have hb:=(Below.refl w.heap.size w).alloc (Nat.le_refl _) (.cells (L.map Value.string).toArray 9);have hH:=Holds.new w 9 (L.map Value.string).toArray;have hP:pathB s.data.toList=(decide (s.size≤60)&&(L.all (fun s=>nameB s.data.toList)&&decide (0<L.length))):=by
  have h0:decide (0<L.length)=true:=decide_eq_true (by rw[←hLn];exact List.length_pos_iff.2 (cutsC_ne _ _));unfold pathB;rw[size_lst,dots_cuts,h0,Bool.and_true,←hL,List.all_map];rfl
 rw[hP];have hA:=pathAll_any (c:=L.length) (fun k u hu=>by
  rw[hH.cell];simpa using hu) rfl hH.lt (by rw[←hLn];omega) (fun u hu=>by
   rw[←hL] at hu;obtain⟨x,hx,rfl⟩:=List.mem_map.1 hu;rw[size_ofB];have:=hcl.2 x hx
   omega)
 have HX:=hidH3 hS hA hb;have hlm:L.length≤1000000:=by rw[←hLn];omega
 clear hS hcut hlen hcl hL hLn hH hP hA hb
 by_cases h60:s.size≤60
 ·have hd:decide (s.size≤60)=true:=decide_eq_true h60;rw[hd];clear hd
  go_enter Tryz.func29,Tryz.ntmps29
  go_wp2_with (first
   | (go_at_call 53;refine HX.out.1.mono ?_;rintro e w2 ⟨rfl,rfl⟩)
   | (go_at_call 51;refine HX.out.2.1.mono ?_;rintro e w3 ⟨rfl,hb3⟩))
  go_ret
  exact⟨ret_bool (by simp),HX.out.2.2.trans (hb3.mono HX.out.2.2.size)⟩
 ·have hd:decide (s.size≤60)=false:=decide_eq_false h60;rw[hd];clear hd
  go_enter Tryz.func29,Tryz.ntmps29
  go_wp2_with fail
  go_ret
  exact⟨ret_bool (by simp),Below.refl _ _⟩
end Go.Proofs.YtkkebmciiiajeaaGreatDoor
namespace Go.Bd
theorem linesT_eq (s:ByteArray):linesT s=if s.data.toList=[] then [] else (cutsC 10 (Lib.trimSuffix s.data.toList [10])).map ofB:=by
 unfold linesT;rw[nls_cuts];split
 ·rfl
 ·congr 2
  have h:=suf_eq 10 (by decide) s.data.toList
  by_cases hs:Lib.hasSuffix s.data.toList [10]=true
  ·rw[trim_suf 10 _ hs];rw[hs] at h;rw[←h,if_pos rfl]
  ·have h2:Lib.hasSuffix s.data.toList [10]=false:=by simpa using hs
   rw[h2] at h;rw[←h,if_neg (by decide)];unfold Lib.trimSuffix;rw[if_neg hs]
end Go.Bd
namespace Go.Proofs.YtkkebmciiiajeaaGreatDoor
open Go.RowKit Go.Bd
theorem Lines_any (s:ByteArray) (w:World) (hs:s.size≤1000000000){m:Int} (hm:Glob m w) :
  Calls Tryz.prog 49 #[.string s] w fun e w'=>∃x,e=.returned x∧w'.ownsRow w.heap.size 9 1 x (linesT s).length (rowTx (linesT s))∧Below w.heap.size w w':=by
 rw[linesT_eq]
 by_cases h0:s.data.toList=[]
 ·rw[if_pos h0];have hs0:s=⟨#[]⟩:=by rw[←ofB_lst s,h0];rfl
  subst hs0;clear h0
  go_enter Tryz.func49,Tryz.ntmps49
  go_wp2_with fail
  go_ret
  exact⟨_,rfl,World.ownsRow_nil _ _ _ _,Below.refl _ _⟩
 ·rw[if_neg h0];have hne:s.toList.isEmpty=false:=by
   rw[Lib.toList_data];cases h:s.data.toList with
   | nil=>exact absurd h h0
   | cons _ _=>rfl
  have hT:=Tryz.strings_TrimSuffix s ⟨#[10]⟩ w (by omega);have e10:(⟨#[10]⟩:ByteArray).data.toList=[10]:=rfl;rw[e10] at hT;obtain⟨t,ht⟩:∃t:ByteArray,ofB (Lib.trimSuffix s.data.toList [10])=t:=⟨_,rfl⟩;have htl:Lib.trimSuffix s.data.toList [10]=t.data.toList:=by rw[←ht];rfl
  have htz:t.size≤s.size:=by
   rw[←size_lst,←htl,←size_lst s];unfold Lib.trimSuffix;split
   ·rw[List.length_take];omega
   ·exact Nat.le_refl _
  have hT':Calls Tryz.prog 84 #[.string s,.string ⟨#[10]⟩] w fun e w'=>e=.returned (.string t)∧w'=w:=by rw[←ht];exact hT
  have hS:=Tryz.strings_Split t ⟨#[10]⟩ m w (by omega) hm.1 (by decide);have hcut:=splitB_ofB 10 t;have hlen:=Lib.splitB_all ⟨#[10]⟩ (by decide) 0 _ t rfl;have hcl:=cutsC_len 10 t.data.toList;rw[size_lst] at hcl;rw[hcut] at hS hlen;rw[List.length_map] at hlen;rw[←hlen] at hS;rw[htl];obtain⟨L,hL⟩:∃L,(cutsC 10 t.data.toList).map ofB=L:=⟨_,rfl⟩;have hLn:(cutsC 10 t.data.toList).length=L.length:=by rw[←hL,List.length_map]
  rw[hL,hLn] at hS;rw[hL];have hb:=(Below.refl w.heap.size w).alloc (Nat.le_refl _) (.cells (L.map Value.string).toArray 9);have ho:(w.alloc (.cells (L.map Value.string).toArray 9)).ownsRow w.heap.size 9 1 (.slice (some ⟨w.heap.size,0,none⟩) L.length L.length) L.length (rowTx L) :=
   own_shut (heap_alloc_new w _) (by simp) (by rw[Nat.mul_one];exact List.take_of_length_le (by simp)) (Nat.le_refl _) (by unfold maxLen;omega) (Nat.le_refl _)
  have HX:=hidH4 hT' hS ho hb;clear hT hT' e10 ht htl htz hS hcut hlen hcl hL hLn ho hb h0
  go_enter Tryz.func49,Tryz.ntmps49
  go_wp2_with (first
   | (go_at_call 84;refine HX.out.1.mono ?_;rintro e w2 ⟨rfl,rfl⟩)
   | (go_at_call 53;refine HX.out.2.1.mono ?_;rintro e w3 ⟨rfl,rfl⟩))
  go_ret
  exact⟨_,rfl,HX.out.2.2.1,HX.out.2.2.2⟩
end Go.Proofs.YtkkebmciiiajeaaGreatDoor
namespace Go.Proofs.YtkkebmciiiajeaaGreatDoor
open Go.RowKit Go.Bd
section
variable {w:World} {κ:Nat→Nat} {rb wm:Nat} {sv:Value} {v:Rv} {st:Ast} {stk:Stk}
def ReadP (PC:List PanicEntry) (w:World) (κ:Nat→Nat) (rb wm:Nat) (sv:Value) (v:Rv) (stk:Stk) (r:Ast) (e:Ending) (w':World):Prop :=
 if r.over=true then e=.panicked PC∧∃κ' v' stk',ARd w' κ' rb wm sv v' r stk'∧Mv w w' κ κ'
 else e=.returned (.tuple #[])∧WordQ w κ rb wm sv v stk r w'
theorem ReadP.back {PC:List PanicEntry}{r:Ast}{e:Ending}{w':World} (ho:r.over=false) (he:e=.returned (.tuple #[])) (h:WordQ w κ rb wm sv v stk r w'):ReadP PC w κ rb wm sv v stk r e w':=by
 unfold ReadP;rw[if_neg (by rw[ho];decide)];exact⟨he,h⟩
theorem a_include {PC:List PanicEntry}{S:Nat→Prop}{src:List Sc}{inc:ByteArray→ByteArray→Ast→Ast} (h:ARd w κ rb wm sv v st stk) (hov:st.over=false) (hsc:ScS w S sv src) (hS:∀k,S k→k<w.heap.size∧κ k=0) (hsn:src.length≤1000000000)
  (hd:st.diags.length≤1000000000) (hn:stk.length≤1000) (hp:0<stk.length) {m:Int} (hg:Glob m w) (l:Ln) (rest:ByteArray) (hz:rest.size≤100000)
  (hread:∀(W:World) (t:ByteArray),stk.length<16→ARd W κ rb wm sv v st stk→Mv w W κ κ→findS src rest=some t→Calls Tryz.prog 62 #[.pointer (some ⟨rb,0,none⟩),.string rest,.string t] W fun e w'=>ReadP PC W κ rb wm sv v stk (inc rest t st) e w') :
  Calls Tryz.prog 57 #[.pointer (some ⟨rb,0,none⟩),lnV l,.string rest] w fun e w'=>ReadP PC w κ rb wm sv v stk (inclM inc src (stk.map (·.1)) l rest st) e w':=by
 have hB:=(Below.refl w.heap.size w).alloc (Nat.le_refl _) (.cells #[.string l.file,.int .i64 l.no,.string l.text] 156);have hbx:=fun w' hb n hn=>@boxed_cell w l w' hb n hn
 unfold boxed at hbx;unfold lnV;obtain⟨n,hnn⟩:∃n,w.heap.size=n:=⟨_,rfl⟩;obtain⟨W1,hW1⟩:∃W1,w.alloc (.cells #[.string l.file,.int .i64 l.no,.string l.text] 156)=W1:=⟨_,rfl⟩;rw[hW1] at hbx hB;have hz1:W1.heap.size=n+1:=by rw[←hW1,←hnn];simp
 obtain⟨W2,hW2⟩:∃W2,W1.alloc (.cells #[.string rest] 9)=W2:=⟨_,rfl⟩;have hB2:Below W1.heap.size W1 W2:=by rw[←hW2];exact (Below.refl _ _).alloc (Nat.le_refl _) _
 have hH2:Holds W2 (n+1) 9 #[.string rest]:=by rw[←hz1,←hW2];exact Holds.new _ _ _
 have hbt:Below w.heap.size w W2:=hB.trans (hB2.mono (by rw[hnn,hz1];omega));have h2:=h.below hbt;have hm2:=Mv.below hbt κ;have HB:=hidH6 h2 hm2 hbx hnn hH2 hB2;have HS:=hidH6 hov hsc hS hg h.three hread;have HZ:=hidH4 hW1 hnn hW2 hz1;clear h h2 hm2 hbx hB hB2 hH2 hbt hov hsc hS hg hread hW1 hnn hW2 hz1;have hglob:∀W,Mv w W κ κ→Glob m W:=fun W hW=>HS.out.2.2.2.1.chg hW.chg (fun k hk=>HS.out.2.2.2.2.1 k hk)
 have hC:=path_any rest W2 hz (hglob W2 HB.out.2.1);have HC:=Lib.hid hC;clear hC hglob;cases hpb:pathB rest.data.toList with
 | false =>
  rw[hpb] at HC;have hr:inclM inc src (stk.map (·.1)) l rest st=st.tell l 3 l.text:=by unfold inclM;rw[if_pos hpb]
  have HRR:=Lib.hid hr;clear hr hpb
  go_enter Tryz.func57,Tryz.ntmps57
  go_wp2_with fail
  (try rw[HZ.out.1])
  (try rw[HZ.out.2.1])
  (try rw[HZ.out.2.2.1])
  (try rw[HZ.out.2.2.2])
  refine HC.out.mono ?_;rintro e w3 ⟨rfl,hb3⟩;have h3:=HB.out.1.below hb3;have hbb3:=HB.out.2.2.2.2.2.trans (hb3.mono HB.out.2.2.2.2.2.size);obtain⟨d0,d1,d2⟩:=HB.out.2.2.1 w3 hbb3 n HB.out.2.2.2.1;have hH3:=HB.out.2.2.2.2.1.below hb3 HB.out.2.2.2.2.1.lt;have r0:=hH3.cell 0;have c3:=h3.hold.cell 3;simp at r0 c3;have H3:=hidH4 h3 (HB.out.2.1.trans (Mv.below hb3 κ)) hH3 hbb3;clear h3 hH3 hbb3 hb3
  go_wp2_with fail
  refine (a_tell H3.out.1 l.file l.text l.no 3 l.text hd).mono ?_;rintro e w9 ⟨rfl,κ',dv',hr9,hm9⟩;go_wp2;refine bodyPost_ret (results_none rfl _ _ _) rfl ?_;rw[HRR.out];exact ReadP.back HS.out.1 rfl ⟨κ',{ v with dv:=dv' },rfl,hr9,H3.out.2.1.trans hm9⟩
 | true =>
  rw[hpb] at HC;have HP:=Lib.hid hpb;clear hpb;cases hho:hasN (stk.map (·.1)) rest with
  | true =>
   have hr:inclM inc src (stk.map (·.1)) l rest st=st.tell l 2 rest:=by unfold inclM;rw[if_neg (by rw[HP.out];decide),if_pos hho]
   have HRR:=Lib.hid hr;clear hr
   go_enter Tryz.func57,Tryz.ntmps57
   go_wp2_with fail
   (try rw[HZ.out.1])
   (try rw[HZ.out.2.1])
   (try rw[HZ.out.2.2.1])
   (try rw[HZ.out.2.2.2])
   refine HC.out.mono ?_;rintro e w3 ⟨rfl,hb3⟩;have h3:=HB.out.1.below hb3;have hbb3:=HB.out.2.2.2.2.2.trans (hb3.mono HB.out.2.2.2.2.2.size);obtain⟨d0,d1,d2⟩:=HB.out.2.2.1 w3 hbb3 n HB.out.2.2.2.1;have hH3:=HB.out.2.2.2.2.1.below hb3 HB.out.2.2.2.2.1.lt;have r0:=hH3.cell 0;have c3:=h3.hold.cell 3;simp at r0 c3;have H3:=hidH4 h3 (HB.out.2.1.trans (Mv.below hb3 κ)) hH3 hbb3;clear h3 hH3 hbb3 hb3;have hO:=isOpen_any H3.out.1 hn hp H3.out.2.2.1;rw[hho] at hO;have HO:=hidH2 hO hho;clear hO hho c3;obtain⟨A4,c4,hvo,_⟩:=own_rowL H3.out.1.opens;have c3:=H3.out.1.hold.cell 3;simp at c3;have HVO:=Lib.hid hvo;clear hvo
   go_wp2_with fail
   refine HO.out.1.mono ?_;rintro e w4 ⟨rfl,hb4⟩;have h4:=H3.out.1.below hb4;have hbb4:=H3.out.2.2.2.trans (hb4.mono H3.out.2.2.2.size);clear d0 d1 d2 r0 c3;obtain⟨d0,d1,d2⟩:=HB.out.2.2.1 w4 hbb4 n HB.out.2.2.2.1;have hH4:=H3.out.2.2.1.below hb4 H3.out.2.2.1.lt;have r0:=hH4.cell 0;have c3:=h4.hold.cell 3;have c0:=h4.hold.cell 0;simp at r0 c3 c0;rw[HVO.out] at c3;have H4:=hidH4 h4 (H3.out.2.1.trans (Mv.below hb4 κ)) hH4 hbb4;clear h4 hH4 hbb4 hb4
   go_wp2_with fail
   refine (a_tell H4.out.1 l.file l.text l.no 2 rest hd).mono ?_;rintro e w9 ⟨rfl,κ',dv',hr9,hm9⟩;go_wp2;refine bodyPost_ret (results_none rfl _ _ _) rfl ?_;rw[HRR.out];exact ReadP.back HS.out.1 rfl ⟨κ',{ v with dv:=dv' },rfl,hr9,H4.out.2.1.trans hm9⟩
  | false =>
   by_cases h16:16≤stk.length
   ·have hr:inclM inc src (stk.map (·.1)) l rest st=st.tell l 5 rest:=by unfold inclM;rw[if_neg (by rw[HP.out];decide),if_neg (by rw[hho];decide),if_pos (by rw[List.length_map];exact h16)]
    have HRR:=Lib.hid hr;clear hr
    go_enter Tryz.func57,Tryz.ntmps57
    go_wp2_with fail
    (try rw[HZ.out.1])
    (try rw[HZ.out.2.1])
    (try rw[HZ.out.2.2.1])
    (try rw[HZ.out.2.2.2])
    refine HC.out.mono ?_;rintro e w3 ⟨rfl,hb3⟩;have h3:=HB.out.1.below hb3;have hbb3:=HB.out.2.2.2.2.2.trans (hb3.mono HB.out.2.2.2.2.2.size);obtain⟨d0,d1,d2⟩:=HB.out.2.2.1 w3 hbb3 n HB.out.2.2.2.1;have hH3:=HB.out.2.2.2.2.1.below hb3 HB.out.2.2.2.2.1.lt;have r0:=hH3.cell 0;have c3:=h3.hold.cell 3;simp at r0 c3;have H3:=hidH4 h3 (HB.out.2.1.trans (Mv.below hb3 κ)) hH3 hbb3;clear h3 hH3 hbb3 hb3;have hO:=isOpen_any H3.out.1 hn hp H3.out.2.2.1;rw[hho] at hO;have HO:=hidH2 hO hho;clear hO hho c3;obtain⟨A4,c4,hvo,_⟩:=own_rowL H3.out.1.opens;have c3:=H3.out.1.hold.cell 3;simp at c3;have HVO:=Lib.hid hvo;clear hvo
    go_wp2_with fail
    refine HO.out.1.mono ?_;rintro e w4 ⟨rfl,hb4⟩;have h4:=H3.out.1.below hb4;have hbb4:=H3.out.2.2.2.trans (hb4.mono H3.out.2.2.2.size);clear d0 d1 d2 r0 c3;obtain⟨d0,d1,d2⟩:=HB.out.2.2.1 w4 hbb4 n HB.out.2.2.2.1;have hH4:=H3.out.2.2.1.below hb4 H3.out.2.2.1.lt;have r0:=hH4.cell 0;have c3:=h4.hold.cell 3;have c0:=h4.hold.cell 0;simp at r0 c3 c0;rw[HVO.out] at c3;have H4:=hidH4 h4 (H3.out.2.1.trans (Mv.below hb4 κ)) hH4 hbb4;clear h4 hH4 hbb4 hb4
    go_wp2_with fail
    refine (a_tell H4.out.1 l.file l.text l.no 5 rest hd).mono ?_;rintro e w9 ⟨rfl,κ',dv',hr9,hm9⟩;go_wp2;refine bodyPost_ret (results_none rfl _ _ _) rfl ?_;rw[HRR.out];exact ReadP.back HS.out.1 rfl ⟨κ',{ v with dv:=dv' },rfl,hr9,H4.out.2.1.trans hm9⟩
   ·obtain⟨A0,cp0,hsv,hcp0,hsc1⟩:=HS.out.2.1;have hF:=fun W (hW:Mv w W κ κ)=>Find_any (TwoS.chg HS.out.2.1 hW.chg (fun k hk e=>e (HS.out.2.2.1 k hk).2)) (fun k hk=>Nat.lt_of_lt_of_le (HS.out.2.2.1 k hk).1 hW.chg.size) hsn rest
    have hr:inclM inc src (stk.map (·.1)) l rest st=match findS src rest with|none=>st.tell l 1 rest|some t=>inc rest t st:=by unfold inclM;rw[if_neg (by rw[HP.out];decide),if_neg (by rw[hho];decide),if_neg (by rw[List.length_map];exact h16)];rfl
    have HSV:=Lib.hid hsv;have HN16:Hid (stk.length<16):=Lib.hid (by omega);rw[List.length_map] at hsv;rw[hsv] at hF;clear hsv hcp0 hsc1;have HFF:=Lib.hid hF;clear hF;cases hfs:findS src rest with
    | none =>
     rw[hfs] at hr HFF;have HRR:=Lib.hid hr;clear hr hfs;unfold getV at HFF
     go_enter Tryz.func57,Tryz.ntmps57
     go_wp2_with fail
     (try rw[HZ.out.1])
     (try rw[HZ.out.2.1])
     (try rw[HZ.out.2.2.1])
     (try rw[HZ.out.2.2.2])
     refine HC.out.mono ?_;rintro e w3 ⟨rfl,hb3⟩;have h3:=HB.out.1.below hb3;have hbb3:=HB.out.2.2.2.2.2.trans (hb3.mono HB.out.2.2.2.2.2.size);obtain⟨d0,d1,d2⟩:=HB.out.2.2.1 w3 hbb3 n HB.out.2.2.2.1;have hH3:=HB.out.2.2.2.2.1.below hb3 HB.out.2.2.2.2.1.lt;have r0:=hH3.cell 0;have c3:=h3.hold.cell 3;simp at r0 c3;have H3:=hidH4 h3 (HB.out.2.1.trans (Mv.below hb3 κ)) hH3 hbb3;clear h3 hH3 hbb3 hb3;have hO:=isOpen_any H3.out.1 hn hp H3.out.2.2.1;rw[hho] at hO;have HO:=hidH2 hO hho;clear hO hho c3;obtain⟨A4,c4,hvo,_⟩:=own_rowL H3.out.1.opens;have c3:=H3.out.1.hold.cell 3;simp at c3;have HVO:=Lib.hid hvo;clear hvo
     go_wp2_with fail
     refine HO.out.1.mono ?_;rintro e w4 ⟨rfl,hb4⟩;have h4:=H3.out.1.below hb4;have hbb4:=H3.out.2.2.2.trans (hb4.mono H3.out.2.2.2.size);clear d0 d1 d2 r0 c3;obtain⟨d0,d1,d2⟩:=HB.out.2.2.1 w4 hbb4 n HB.out.2.2.2.1;have hH4:=H3.out.2.2.1.below hb4 H3.out.2.2.1.lt;have r0:=hH4.cell 0;have c3:=h4.hold.cell 3;have c0:=h4.hold.cell 0;simp at r0 c3 c0;rw[HVO.out] at c3;have H4:=hidH4 h4 (H3.out.2.1.trans (Mv.below hb4 κ)) hH4 hbb4;clear h4 hH4 hbb4 hb4;have hsv:=HSV.out;rw[List.length_map] at hsv;rw[hsv] at c0;clear hsv
     go_wp2_with fail
     have hF4:=HFF.out w4.drew (H4.out.2.1.trans (Mv.below (Below.refl _ w4).drew κ));have HF4:=Lib.hid hF4;clear hF4
     go_region_with (go_at_call 22;refine HF4.out.mono ?_;rintro e w5 ⟨rfl,hb5⟩)
     all_goals (
      have hbd:Below w4.heap.size w4 w5:=((Below.refl w4.heap.size w4).drew).trans hb5;have h5:=H4.out.1.below hbd;clear d0 d1 d2 r0 c3 c0;obtain⟨d0,d1,d2⟩:=HB.out.2.2.1 w5 (H4.out.2.2.2.trans (hbd.mono H4.out.2.2.2.size)) n HB.out.2.2.2.1;have hH5:=H4.out.2.2.1.below hbd H4.out.2.2.1.lt;have r0:=hH5.cell 0;simp at r0;have H5:=hidH3 h5 (H4.out.2.1.trans (Mv.below hbd κ)) hH5;clear h5 hH5 hbd hb5
      go_wp2_with fail
      refine (a_tell H5.out.1 l.file l.text l.no 1 rest hd).mono ?_;rintro e w9 ⟨rfl,κ',dv',hr9,hm9⟩;go_wp2;refine bodyPost_ret (results_none rfl _ _ _) rfl ?_;rw[HRR.out];exact ReadP.back HS.out.1 rfl ⟨κ',{ v with dv:=dv' },rfl,hr9,H5.out.2.1.trans hm9⟩)
    | some t =>
     rw[hfs] at hr HFF;have HRR:=Lib.hid hr;have HFS:=Lib.hid hfs;clear hr hfs;unfold getV at HFF
     go_enter Tryz.func57,Tryz.ntmps57
     go_wp2_with fail
     (try rw[HZ.out.1])
     (try rw[HZ.out.2.1])
     (try rw[HZ.out.2.2.1])
     (try rw[HZ.out.2.2.2])
     refine HC.out.mono ?_;rintro e w3 ⟨rfl,hb3⟩;have h3:=HB.out.1.below hb3;have hbb3:=HB.out.2.2.2.2.2.trans (hb3.mono HB.out.2.2.2.2.2.size);obtain⟨d0,d1,d2⟩:=HB.out.2.2.1 w3 hbb3 n HB.out.2.2.2.1;have hH3:=HB.out.2.2.2.2.1.below hb3 HB.out.2.2.2.2.1.lt;have r0:=hH3.cell 0;have c3:=h3.hold.cell 3;simp at r0 c3;have H3:=hidH4 h3 (HB.out.2.1.trans (Mv.below hb3 κ)) hH3 hbb3;clear h3 hH3 hbb3 hb3;have hO:=isOpen_any H3.out.1 hn hp H3.out.2.2.1;rw[hho] at hO;have HO:=hidH2 hO hho;clear hO hho c3;obtain⟨A4,c4,hvo,_⟩:=own_rowL H3.out.1.opens;have c3:=H3.out.1.hold.cell 3;simp at c3;have HVO:=Lib.hid hvo;clear hvo
     go_wp2_with fail
     refine HO.out.1.mono ?_;rintro e w4 ⟨rfl,hb4⟩;have h4:=H3.out.1.below hb4;have hbb4:=H3.out.2.2.2.trans (hb4.mono H3.out.2.2.2.size);clear d0 d1 d2 r0 c3;obtain⟨d0,d1,d2⟩:=HB.out.2.2.1 w4 hbb4 n HB.out.2.2.2.1;have hH4:=H3.out.2.2.1.below hb4 H3.out.2.2.1.lt;have r0:=hH4.cell 0;have c3:=h4.hold.cell 3;have c0:=h4.hold.cell 0;simp at r0 c3 c0;rw[HVO.out] at c3;have H4:=hidH4 h4 (H3.out.2.1.trans (Mv.below hb4 κ)) hH4 hbb4;clear h4 hH4 hbb4 hb4;have hsv:=HSV.out;rw[List.length_map] at hsv;rw[hsv] at c0;clear hsv
     go_wp2_with fail
     have hF4:=HFF.out w4.drew (H4.out.2.1.trans (Mv.below (Below.refl _ w4).drew κ));have HF4:=Lib.hid hF4;clear hF4
     go_region_with (go_at_call 22;refine HF4.out.mono ?_;rintro e w5 ⟨rfl,hb5⟩)
     all_goals (
      have hbd:Below w4.heap.size w4 w5:=((Below.refl w4.heap.size w4).drew).trans hb5;have h5:=H4.out.1.below hbd;clear d0 d1 d2 r0 c3 c0;obtain⟨d0,d1,d2⟩:=HB.out.2.2.1 w5 (H4.out.2.2.2.trans (hbd.mono H4.out.2.2.2.size)) n HB.out.2.2.2.1;have hH5:=H4.out.2.2.1.below hbd H4.out.2.2.1.lt;have r0:=hH5.cell 0;simp at r0;have H5:=hidH3 h5 (H4.out.2.1.trans (Mv.below hbd κ)) hH5;clear h5 hH5 hbd hb5
      go_wp2_with fail
      refine (HS.out.2.2.2.2.2 w5 t HN16.out H5.out.1 H5.out.2.1 HFS.out).mono ?_;rintro e w9 hR;unfold ReadP at hR
      by_cases ho:(inc rest t st).over=true
      ·rw[if_pos ho] at hR;obtain⟨rfl,κ',v',stk',hr9,hm9⟩:=hR;go_wp2;refine⟨rfl,?_⟩
       show ReadP PC w κ rb wm sv v stk (inclM inc src (stk.map (·.1)) l rest st) (.panicked PC) w9
       rw[HRR.out];unfold ReadP;rw[if_pos ho];exact⟨rfl,κ',v',stk',hr9,H5.out.2.1.trans hm9⟩
      ·rw[if_neg ho] at hR;obtain⟨rfl,κ',v',hv9,hr9,hm9⟩:=hR;go_wp2
       go_end0
       rw[HRR.out];unfold ReadP;rw[if_neg ho];exact⟨rfl,κ',v',hv9,hr9,H5.out.2.1.trans hm9⟩)
end
section
variable {w:World} {κ:Nat→Nat} {rb wm:Nat} {sv:Value} {v:Rv} {st:Ast} {pre:Stk} {nm:ByteArray} {cs:List Cd} {pb:List (Nat×Value)} {b:Nat} {rv:Value}
theorem asks_lines:∀(l:List ByteArray) (s:Ast),(s.asks l).lines=s.lines
 | [],s=>rfl
 | n::l,s=>by
  have h:=asks_lines l (s.ask n);have e:(s.ask n).lines=s.lines:=by
   unfold Ast.ask;split<;>rfl
  exact h.trans e
theorem ofB_drop (s:ByteArray):s.extract 1 s.size=ofB (s.data.toList.drop 1):=by
 rw[←ofB_lst (s.extract 1 s.size),ext_lst,List.take_of_length_le (by rw[size_lst];exact Nat.le_refl _)]
theorem pre_len {s:Bs} (h:Lib.hasPrefix s [92,64]=true):2≤s.length:=by
 unfold Lib.hasPrefix at h;exact (List.isPrefixOf_iff_prefix.1 h).length_le
theorem lnA_info:(Tryz.prog.info? tLn).map (fun i=>(i.zero,i.size,i.bytes))=some (some (.agg #[.string ⟨#[]⟩,.int .i64 0,.string ⟨#[]⟩]),3,40):=by kernel_rfl
theorem lns_under:Tryz.prog.underlying 52=some (.slice tLn):=by kernel_rfl
theorem line_text {inc:ByteArray→ByteArray→Ast→Ast}{src:List Sc}{opens:List ByteArray} (h:ARd w κ rb wm sv v st (pre++[(nm,cs)])) (hv:v.sb=pb++[(b,rv)]) (hn:pre.length≤1000) (hc:cs.length≤100000) (hvs:Vals st) (hat:st.attrs.length≤1000000000) (ha:st.asked.length≤100000000000) (hll:st.lines.length≤1000000000) (l:Ln) (hz:l.text.size≤1000000) (hx:l.text.data.toList.headD 0≠64) :
  Calls Tryz.prog 109 #[.pointer (some ⟨rb,0,none⟩),lnV l] w fun e w'=>e=.returned (.tuple #[])∧WordP w κ rb wm sv pre nm pb b (lineM inc src opens l st cs) w':=by
 have hB:=(Below.refl w.heap.size w).alloc (Nat.le_refl _) (.cells #[.string l.file,.int .i64 l.no,.string l.text] 156);have h1:=h.below hB;have hm1:=Mv.below hB κ;have hbx:=fun w' hb n hn=>@boxed_cell w l w' hb n hn
 unfold boxed at hbx;unfold lnV;obtain⟨n,hnn⟩:∃n,w.heap.size=n:=⟨_,rfl⟩;obtain⟨W1,hW1⟩:∃W1,w.alloc (.cells #[.string l.file,.int .i64 l.no,.string l.text] 156)=W1:=⟨_,rfl⟩;rw[hW1] at h1 hm1 hbx;have HB:=hidH4 h1 hm1 hbx hnn;have HW:=hidH2 hW1 hnn;obtain⟨d0,d1,d2⟩:=hbx W1 (Below.refl _ _) n hnn;have HX:=Lib.hid h.lt;clear h1 hm1 hbx hB h hW1 hnn;have hP:=Tryz.strings_HasPrefix l.text ⟨#[64]⟩ W1;have e64:(⟨#[64]⟩:ByteArray).data.toList=[64]:=rfl;rw[e64,pre_eq 64 (by decide),beq_eq_false_iff_ne.2 hx] at hP;have hL:lineM inc src opens l st cs=if force cs then ({ st.fill (ofB (if Lib.hasPrefix l.text.data.toList [92,64] then l.text.data.toList.drop 1 else l.text.data.toList)) with lines:=(st.fill (ofB (if Lib.hasPrefix l.text.data.toList [92,64] then l.text.data.toList.drop 1 else l.text.data.toList))).lines++[⟨l.file,l.no,fillT st.attrs (ofB (if Lib.hasPrefix l.text.data.toList [92,64] then l.text.data.toList.drop 1 else l.text.data.toList))⟩] },cs) else (st,cs):=by
  unfold lineM;dsimp only;rw[if_neg (by simpa using hx)]
 have HP:=hidH3 hP hL hvs;clear hP hL e64 hx hvs;have HF:Hid (force cs=force cs):=Lib.hid rfl;cases hf:force cs with
 | false =>
  have HFF:=Lib.hid hf;clear hf
  go_enter Tryz.func109,Tryz.ntmps109
  go_wp2_with fail
  (try rw[HW.out.1])
  (try rw[HW.out.2])
  refine HP.out.1.mono ?_;rintro e w2 ⟨rfl,rfl⟩
  go_wp2_with fail
  refine (a_top HB.out.1 hv hn).mono ?_;rintro e w3 ⟨rfl,hb3⟩;have H3:=hidH2 (HB.out.1.below hb3) (HB.out.2.1.trans (Mv.below hb3 κ));clear hb3
  go_wp2_with fail
  have hfo:=a_force_any (H3.out.1.last hv) hc;rw[HFF.out] at hfo;refine hfo.mono ?_;rintro e w4 ⟨rfl,hb4⟩;have H4:=hidH2 (H3.out.1.below hb4) (H3.out.2.trans (Mv.below hb4 κ));clear hb4 hfo;go_wp2
  first|refine bodyPost_ret (results_none rfl _ _ _) rfl ?_|go_end0
  refine⟨rfl,?_⟩;rw[HP.out.2.1,HFF.out,if_neg (by decide)];exact⟨κ,v,rv,hv,H4.out.1,H4.out.2⟩
 | true =>
  have HFF:=Lib.hid hf;clear hf;obtain⟨tx,htx⟩:∃tx,ofB (if Lib.hasPrefix l.text.data.toList [92,64] then l.text.data.toList.drop 1 else l.text.data.toList)=tx:=⟨_,rfl⟩;have hL:=HP.out.2.1;rw[htx,HFF.out,if_pos rfl] at hL;have htz:tx.size≤l.text.size:=by
   rw[←htx,size_ofB,←size_lst l.text];split
   ·rw[List.length_drop];omega
   ·exact Nat.le_refl _
  have HT:=hidH2 htx hL;clear htx hL
  go_enter Tryz.func109,Tryz.ntmps109
  go_wp2_with fail
  (try rw[HW.out.1])
  (try rw[HW.out.2])
  refine HP.out.1.mono ?_;rintro e w2 ⟨rfl,rfl⟩
  go_wp2_with fail
  refine (a_top HB.out.1 hv hn).mono ?_;rintro e w3 ⟨rfl,hb3⟩;have H3:=hidH3 (HB.out.1.below hb3) (HB.out.2.1.trans (Mv.below hb3 κ)) hb3;clear hb3
  go_wp2_with fail
  have hfo:=a_force_any (H3.out.1.last hv) hc;rw[HFF.out] at hfo;refine hfo.mono ?_;rintro e w4 ⟨rfl,hb4⟩;have hbb4:=H3.out.2.2.trans (hb4.mono H3.out.2.2.size);clear d0 d1 d2;obtain⟨d0,d1,d2⟩:=HB.out.2.2.1 w4 hbb4 n HB.out.2.2.2;have H4:=hidH3 (H3.out.1.below hb4) (H3.out.2.1.trans (Mv.below hb4 κ)) hbb4;clear hb4 hfo hbb4;have hP2:=Tryz.strings_HasPrefix l.text ⟨#[92,64]⟩ w4;have e92:(⟨#[92,64]⟩:ByteArray).data.toList=[92,64]:=rfl;rw[e92] at hP2;obtain⟨hp,hhp⟩:∃hp,Lib.hasPrefix l.text.data.toList [92,64]=hp:=⟨_,rfl⟩;rw[hhp] at hP2;have HHP:=hidH2 hhp hP2;clear hhp hP2 e92
  go_wp2_with fail
  refine HHP.out.2.mono ?_;rintro e w5 ⟨rfl,rfl⟩
  go_upto_if 20 with fail
  go_cut [4] (fun s4 wx=>s4=.string tx∧wx=w5)
  case first =>
   cases hp
   ·go_wp2_with fail
    go_meet
    case rel =>
     refine⟨?_,rfl⟩;have h:=HT.out.1;rw[HHP.out.1,if_neg (by decide),ofB_lst] at h;rw[h]
   ·have h2:=pre_len HHP.out.1;rw[size_lst] at h2
    go_wp2_with fail
    go_meet
    case rel =>
     refine⟨?_,rfl⟩;have h:=HT.out.1;rw[HHP.out.1,if_pos rfl,←ofB_drop] at h;rw[h]
  case rest =>
   obtain⟨h4,h5⟩:=hcut;subst h4;subst h5;obtain⟨ls,hls⟩:∃ls,st.lines=ls:=⟨_,rfl⟩;have hfl:(st.fill tx).lines=ls:=by rw[←hls];exact asks_lines _ _
   obtain⟨A,c,hlv,hlc⟩:=own_rowL H4.out.1.lines;rw[hls] at hlv hlc hll;have c8:=H4.out.1.hold.cell 8;simp at c8;rw[hlv] at c8;have hF:=fun W (hW:Below wc.heap.size wc W)=>a_fill (H4.out.1.below hW) HP.out.2.2 hat tx (by omega) ha
   obtain⟨ft,hft⟩:∃ft,fillT st.attrs tx=ft:=⟨_,rfl⟩;rw[hft] at hF;obtain⟨i0,hi0,hz0,hz1,hz2⟩:=info_parts lnA_info;have HI:=hidH4 hi0 hz0 hz1 hz2;have HL:=hidH5 hlv hls hfl hft hF;have hk0:κ n=0:=by
    by_cases e:κ n=0
    ·exact e
    ·exact absurd (HX.out n e) (by have:=HB.out.2.2.2;omega)
   have HK:=Lib.hid hk0;clear hi0 hz0 hz1 hz2 hlv hls hfl hft hF hk0 d2;generalize hlsl:ls.length=lsl at *;have HLS:=Lib.hid hlsl;clear hlsl
   go_upto_region 6 with fail
   refine wp_region_held_drew (S:=(fun w'=>w'.cell? ⟨n,0,none⟩=some (.string l.file)∧w'.cell? ⟨n,1,none⟩=some (.int .i64 l.no))) (by kernel_rfl) ?_ (fun hHeld0=>?_)
   ·(try dsimp only)
    first|exact⟨d0,d1⟩|exact D6|exact E6|exact G6|exact K6
   refine tkH 0 23 ?_;refine tkH 1 24 ?_;refine tkH 2 25 ?_;refine tkH 3 26 ?_;refine tkH 5 28 ?_;refine tkH 6 29 ?_;refine tkH 7 30 ?_;refine tkH 8 31 ?_;refine tkH 9 32 ?_;refine tkH 10 33 ?_;refine rdyH [4,11] ?_;refine AllReadyH.cons (o:=⟨some 27,_,_,_,_,_⟩) rfl (fun K hK=>?_) ?_
   ·skip
    go_simp;refine hK.out _ _ ?_ (fun hHeld1=>?_)
    ·(try dsimp only)
     first|exact⟨d0,d1⟩|exact D6|exact E6|exact G6|exact K6
    clear hK K hHeld0
    (try go_frame)
    refine rdyH [11] ?_;refine AllReadyH.cons (o:=⟨some 34,_,_,_,_,_⟩) rfl (fun K hK=>?_) AllReadyH.nil;go_simp;refine (HL.out.2.2.2.2 _ ((Below.refl wc.heap.size wc).drew)).mono ?_;rintro e w6 ⟨rfl,h6,hm6⟩;have D6:w6.cell? ⟨n,0,none⟩=some (.string l.file)∧w6.cell? ⟨n,1,none⟩=some (.int .i64 l.no):=⟨hm6.chg.cell (p:=⟨n,0,none⟩) (fun e=>e HK.out) d0,hm6.chg.cell (p:=⟨n,1,none⟩) (fun e=>e HK.out) d1⟩;have c86:=h6.hold.cell 8;simp at c86;rw[HL.out.1] at c86;have hrl:rb<w6.heap.size:=h6.hold.lt;have hnl:n<w6.heap.size:=World.block_lt_of_cell? _ _ D6.1;have E6:(w6.alloc (.cells #[.string l.file,.int .i64 l.no,.string ft] 98)).cell? ⟨n,0,none⟩=some (.string l.file)∧(w6.alloc (.cells #[.string l.file,.int .i64 l.no,.string ft] 98)).cell? ⟨n,1,none⟩=some (.int .i64 l.no):=⟨by rw[World.cell?_alloc_lt _ _ _ hnl];exact D6.1,by rw[World.cell?_alloc_lt _ _ _ hnl];exact D6.2⟩;have e86:(w6.alloc (.cells #[.string l.file,.int .i64 l.no,.string ft] 98)).cell? ⟨rb,8,none⟩=some (.slice A lsl c):=by rw[World.cell?_alloc_lt _ _ _ hrl];exact c86
    have H6:=hidH2 h6 hm6;clear h6 hm6;refine hK.out _ _ ?_ (fun hHeld2=>?_)
    ·(try dsimp only)
     first|exact⟨d0,d1⟩|exact D6|exact E6|exact G6|exact K6
    clear hK K hHeld1
    (try go_frame)
    refine tkH 12 35 ?_;refine rdyH [13] ?_;refine AllReadyH.cons (o:=⟨some 36,_,_,_,_,_⟩) rfl (fun K hK=>?_) AllReadyH.nil;go_simp;refine hK.out _ _ ?_ (fun hHeld3=>?_)
    ·(try dsimp only)
     first|exact⟨d0,d1⟩|exact D6|exact E6|exact G6|exact K6
    clear hK K hHeld2
    (try go_frame)
    refine rdyH [14] ?_;refine AllReadyH.cons (o:=⟨some 37,_,_,_,_,_⟩) rfl (fun K hK=>?_) AllReadyH.nil;have hrow:w6.ownsRow 0 tLn 3 (.slice A lsl c) lsl (rowLn ls):=by
     have h:=H6.out.1.lines;rw[HL.out.2.2.1,HLS.out,HL.out.1] at h;exact h
    refine step_append_lies _ (by rfl) _ _ _ (by rfl) 0 98 i0 _ 3 40 lns_under HI.out.1 HI.out.2.1 HI.out.2.2.1 HI.out.2.2.2 rfl (by omega) (.slice A lsl c) lsl (rowLn ls) (by rfl) (hrow.alloc _)
     ⟨w6.heap.size,0,none⟩ 1 1 [.string l.file,.int .i64 l.no,.string ft] (by rfl) (by rfl) (World.news_of_block (cs:=#[.string l.file,.int .i64 l.no,.string ft]) (t:=98) (fr:=(0,0)) (heap_alloc_new w6 _)) (by simp[Value.oneCell'])
     (by omega) (by unfold maxLen;omega) (by omega) (Nat.zero_le _) (w6.heap.size+1) (by simp) ?_
    intro g cap w8 ho8 hg8 hat8 hl8;have hC8:Chg w6 w8 (fun k=>(Value.slice A lsl c).ownBlock=some k):=((Chg.refl w6 _).alloc _).trans (Chg.grown hg8) (fun _ _ h=>h.symm);have hkr:(Value.slice A lsl c).ownBlock≠some rb:=fun e=>by have h1:=H6.out.1.kL rb (by rw[HL.out.1];exact e);have h2:=H6.out.1.kR;omega
    have hon:(Value.slice A lsl c).ownBlock≠some n:=fun e=>by have h1:=H6.out.1.kL n (by rw[HL.out.1];exact e);have h2:=HK.out;omega
    have hgb:g≠rb:=fun e=>by
     rcases hat8 with h|h
     ·exact hkr (by rw[h,e])
     ·omega
    have hrn:rb≠n:=fun e=>by have h1:=H6.out.1.kR;have h2:=HK.out;rw[e] at h1;omega
    have hh8:=hC8.holds hkr H6.out.1.hold;have G6:w8.cell? ⟨n,0,none⟩=some (.string l.file)∧w8.cell? ⟨n,1,none⟩=some (.int .i64 l.no):=⟨hC8.cell (p:=⟨n,0,none⟩) hon D6.1,hC8.cell (p:=⟨n,1,none⟩) hon D6.2⟩;have K6:(w8.setCell ⟨rb,8,none⟩ (.slice (some ⟨g,0,none⟩) (lsl+1) cap)).cell? ⟨n,0,none⟩=some (.string l.file)∧(w8.setCell ⟨rb,8,none⟩ (.slice (some ⟨g,0,none⟩) (lsl+1) cap)).cell? ⟨n,1,none⟩=some (.int .i64 l.no):=⟨cell_far (g:=rb) (i:=8) (j:=0) hrn _ G6.1,cell_far (g:=rb) (i:=8) (j:=1) hrn _ G6.2⟩;have k8:=hh8.cell 8;have f8:=hh8.free 8;simp at k8;have H8:=hidH5 hC8 ho8 hat8 hh8 hl8;clear hC8 ho8 hg8 hat8 hh8 hl8 hkr hon hrow;refine hK.out _ _ ?_ (fun hHeld4=>?_)
    ·(try dsimp only)
     first|exact⟨d0,d1⟩|exact D6|exact E6|exact G6|exact K6
    clear hK K hHeld3
    (try go_frame)
    refine tkH 15 38 ?_;refine tkH 16 39 ?_;refine rdyH [17] ?_;refine AllReadyH.cons rfl (fun K hK=>?_) AllReadyH.nil;go_simp;refine hK.out _ _ ?_ (fun hHeld5=>?_)
    ·(try dsimp only)
     first|exact⟨d0,d1⟩|exact D6|exact E6|exact G6|exact K6
    clear hK K hHeld4
    (try go_frame)
    refine wpAnyH_done (by kernel_rfl) ?_ _;go_wp2
    first|refine bodyPost_ret (results_none rfl _ _ _) rfl ?_|go_end0
    have hlsl:=HLS.out;subst hlsl;have hA:=line_done (d:=⟨l.file,l.no,ft⟩) H6.out.1 HL.out.1 HL.out.2.2.1 H8.out.1 H8.out.2.1 H8.out.2.2.1 H8.out.2.2.2.1 H8.out.2.2.2.2 hgb;have hM:=line_mv H6.out.1 HL.out.1 HL.out.2.2.1 H8.out.1 H8.out.2.2.1 H8.out.2.2.2.2 (cap:=cap);refine⟨rfl,?_⟩;rw[HT.out.2,HL.out.2.2.2.1];exact⟨_,{ v with lv:=.slice (some ⟨g,0,none⟩) (ls.length+1) cap },rv,hv,hA,(H4.out.2.1.trans (Mv.below ((Below.refl wc.heap.size wc).drew) κ)).trans (H6.out.2.trans hM)⟩
   refine AllReadyH.cons (o:=⟨some 34,_,_,_,_,_⟩) rfl (fun K hK=>?_) AllReadyH.nil;go_simp;refine (HL.out.2.2.2.2 _ ((Below.refl wc.heap.size wc).drew)).mono ?_;rintro e w6 ⟨rfl,h6,hm6⟩;have D6:w6.cell? ⟨n,0,none⟩=some (.string l.file)∧w6.cell? ⟨n,1,none⟩=some (.int .i64 l.no):=⟨hm6.chg.cell (p:=⟨n,0,none⟩) (fun e=>e HK.out) d0,hm6.chg.cell (p:=⟨n,1,none⟩) (fun e=>e HK.out) d1⟩;have c86:=h6.hold.cell 8;simp at c86;rw[HL.out.1] at c86;have hrl:rb<w6.heap.size:=h6.hold.lt;have hnl:n<w6.heap.size:=World.block_lt_of_cell? _ _ D6.1;have E6:(w6.alloc (.cells #[.string l.file,.int .i64 l.no,.string ft] 98)).cell? ⟨n,0,none⟩=some (.string l.file)∧(w6.alloc (.cells #[.string l.file,.int .i64 l.no,.string ft] 98)).cell? ⟨n,1,none⟩=some (.int .i64 l.no):=⟨by rw[World.cell?_alloc_lt _ _ _ hnl];exact D6.1,by rw[World.cell?_alloc_lt _ _ _ hnl];exact D6.2⟩;have e86:(w6.alloc (.cells #[.string l.file,.int .i64 l.no,.string ft] 98)).cell? ⟨rb,8,none⟩=some (.slice A lsl c):=by rw[World.cell?_alloc_lt _ _ _ hrl];exact c86
   have H6:=hidH2 h6 hm6;clear h6 hm6;refine hK.out _ _ ?_ (fun hHeld1=>?_)
   ·(try dsimp only)
    first|exact⟨d0,d1⟩|exact D6|exact E6|exact G6|exact K6
   clear hK K hHeld0
   (try go_frame)
   refine tkH 12 35 ?_;refine rdyH [4,13] ?_;refine AllReadyH.cons (o:=⟨some 27,_,_,_,_,_⟩) rfl (fun K hK=>?_) ?_
   ·skip
    go_simp;refine hK.out _ _ ?_ (fun hHeld2=>?_)
    ·(try dsimp only)
     first|exact⟨d0,d1⟩|exact D6|exact E6|exact G6|exact K6
    clear hK K hHeld1
    (try go_frame)
    refine rdyH [13] ?_;refine AllReadyH.cons (o:=⟨some 36,_,_,_,_,_⟩) rfl (fun K hK=>?_) AllReadyH.nil;go_simp;refine hK.out _ _ ?_ (fun hHeld3=>?_)
    ·(try dsimp only)
     first|exact⟨d0,d1⟩|exact D6|exact E6|exact G6|exact K6
    clear hK K hHeld2
    (try go_frame)
    refine rdyH [14] ?_;refine AllReadyH.cons (o:=⟨some 37,_,_,_,_,_⟩) rfl (fun K hK=>?_) AllReadyH.nil;have hrow:w6.ownsRow 0 tLn 3 (.slice A lsl c) lsl (rowLn ls):=by
     have h:=H6.out.1.lines;rw[HL.out.2.2.1,HLS.out,HL.out.1] at h;exact h
    refine step_append_lies _ (by rfl) _ _ _ (by rfl) 0 98 i0 _ 3 40 lns_under HI.out.1 HI.out.2.1 HI.out.2.2.1 HI.out.2.2.2 rfl (by omega) (.slice A lsl c) lsl (rowLn ls) (by rfl) (hrow.alloc _)
     ⟨w6.heap.size,0,none⟩ 1 1 [.string l.file,.int .i64 l.no,.string ft] (by rfl) (by rfl) (World.news_of_block (cs:=#[.string l.file,.int .i64 l.no,.string ft]) (t:=98) (fr:=(0,0)) (heap_alloc_new w6 _)) (by simp[Value.oneCell'])
     (by omega) (by unfold maxLen;omega) (by omega) (Nat.zero_le _) (w6.heap.size+1) (by simp) ?_
    intro g cap w8 ho8 hg8 hat8 hl8;have hC8:Chg w6 w8 (fun k=>(Value.slice A lsl c).ownBlock=some k):=((Chg.refl w6 _).alloc _).trans (Chg.grown hg8) (fun _ _ h=>h.symm);have hkr:(Value.slice A lsl c).ownBlock≠some rb:=fun e=>by have h1:=H6.out.1.kL rb (by rw[HL.out.1];exact e);have h2:=H6.out.1.kR;omega
    have hon:(Value.slice A lsl c).ownBlock≠some n:=fun e=>by have h1:=H6.out.1.kL n (by rw[HL.out.1];exact e);have h2:=HK.out;omega
    have hgb:g≠rb:=fun e=>by
     rcases hat8 with h|h
     ·exact hkr (by rw[h,e])
     ·omega
    have hrn:rb≠n:=fun e=>by have h1:=H6.out.1.kR;have h2:=HK.out;rw[e] at h1;omega
    have hh8:=hC8.holds hkr H6.out.1.hold;have G6:w8.cell? ⟨n,0,none⟩=some (.string l.file)∧w8.cell? ⟨n,1,none⟩=some (.int .i64 l.no):=⟨hC8.cell (p:=⟨n,0,none⟩) hon D6.1,hC8.cell (p:=⟨n,1,none⟩) hon D6.2⟩;have K6:(w8.setCell ⟨rb,8,none⟩ (.slice (some ⟨g,0,none⟩) (lsl+1) cap)).cell? ⟨n,0,none⟩=some (.string l.file)∧(w8.setCell ⟨rb,8,none⟩ (.slice (some ⟨g,0,none⟩) (lsl+1) cap)).cell? ⟨n,1,none⟩=some (.int .i64 l.no):=⟨cell_far (g:=rb) (i:=8) (j:=0) hrn _ G6.1,cell_far (g:=rb) (i:=8) (j:=1) hrn _ G6.2⟩;have k8:=hh8.cell 8;have f8:=hh8.free 8;simp at k8;have H8:=hidH5 hC8 ho8 hat8 hh8 hl8;clear hC8 ho8 hg8 hat8 hh8 hl8 hkr hon hrow;refine hK.out _ _ ?_ (fun hHeld4=>?_)
    ·(try dsimp only)
     first|exact⟨d0,d1⟩|exact D6|exact E6|exact G6|exact K6
    clear hK K hHeld3
    (try go_frame)
    refine tkH 15 38 ?_;refine tkH 16 39 ?_;refine rdyH [17] ?_;refine AllReadyH.cons rfl (fun K hK=>?_) AllReadyH.nil;go_simp;refine hK.out _ _ ?_ (fun hHeld5=>?_)
    ·(try dsimp only)
     first|exact⟨d0,d1⟩|exact D6|exact E6|exact G6|exact K6
    clear hK K hHeld4
    (try go_frame)
    refine wpAnyH_done (by kernel_rfl) ?_ _;go_wp2
    first|refine bodyPost_ret (results_none rfl _ _ _) rfl ?_|go_end0
    have hlsl:=HLS.out;subst hlsl;have hA:=line_done (d:=⟨l.file,l.no,ft⟩) H6.out.1 HL.out.1 HL.out.2.2.1 H8.out.1 H8.out.2.1 H8.out.2.2.1 H8.out.2.2.2.1 H8.out.2.2.2.2 hgb;have hM:=line_mv H6.out.1 HL.out.1 HL.out.2.2.1 H8.out.1 H8.out.2.2.1 H8.out.2.2.2.2 (cap:=cap);refine⟨rfl,?_⟩;rw[HT.out.2,HL.out.2.2.2.1];exact⟨_,{ v with lv:=.slice (some ⟨g,0,none⟩) (ls.length+1) cap },rv,hv,hA,(H4.out.2.1.trans (Mv.below ((Below.refl wc.heap.size wc).drew) κ)).trans (H6.out.2.trans hM)⟩
   refine AllReadyH.cons (o:=⟨some 36,_,_,_,_,_⟩) rfl (fun K hK=>?_) AllReadyH.nil;go_simp;refine hK.out _ _ ?_ (fun hHeld2=>?_)
   ·(try dsimp only)
    first|exact⟨d0,d1⟩|exact D6|exact E6|exact G6|exact K6
   clear hK K hHeld1
   (try go_frame)
   refine rdyH [4] ?_;refine AllReadyH.cons (o:=⟨some 27,_,_,_,_,_⟩) rfl (fun K hK=>?_) AllReadyH.nil;go_simp;refine hK.out _ _ ?_ (fun hHeld3=>?_)
   ·(try dsimp only)
    first|exact⟨d0,d1⟩|exact D6|exact E6|exact G6|exact K6
   clear hK K hHeld2
   (try go_frame)
   refine rdyH [14] ?_;refine AllReadyH.cons (o:=⟨some 37,_,_,_,_,_⟩) rfl (fun K hK=>?_) AllReadyH.nil;have hrow:w6.ownsRow 0 tLn 3 (.slice A lsl c) lsl (rowLn ls):=by
    have h:=H6.out.1.lines;rw[HL.out.2.2.1,HLS.out,HL.out.1] at h;exact h
   refine step_append_lies _ (by rfl) _ _ _ (by rfl) 0 98 i0 _ 3 40 lns_under HI.out.1 HI.out.2.1 HI.out.2.2.1 HI.out.2.2.2 rfl (by omega) (.slice A lsl c) lsl (rowLn ls) (by rfl) (hrow.alloc _)
    ⟨w6.heap.size,0,none⟩ 1 1 [.string l.file,.int .i64 l.no,.string ft] (by rfl) (by rfl) (World.news_of_block (cs:=#[.string l.file,.int .i64 l.no,.string ft]) (t:=98) (fr:=(0,0)) (heap_alloc_new w6 _)) (by simp[Value.oneCell'])
    (by omega) (by unfold maxLen;omega) (by omega) (Nat.zero_le _) (w6.heap.size+1) (by simp) ?_
   intro g cap w8 ho8 hg8 hat8 hl8;have hC8:Chg w6 w8 (fun k=>(Value.slice A lsl c).ownBlock=some k):=((Chg.refl w6 _).alloc _).trans (Chg.grown hg8) (fun _ _ h=>h.symm);have hkr:(Value.slice A lsl c).ownBlock≠some rb:=fun e=>by have h1:=H6.out.1.kL rb (by rw[HL.out.1];exact e);have h2:=H6.out.1.kR;omega
   have hon:(Value.slice A lsl c).ownBlock≠some n:=fun e=>by have h1:=H6.out.1.kL n (by rw[HL.out.1];exact e);have h2:=HK.out;omega
   have hgb:g≠rb:=fun e=>by
    rcases hat8 with h|h
    ·exact hkr (by rw[h,e])
    ·omega
   have hrn:rb≠n:=fun e=>by have h1:=H6.out.1.kR;have h2:=HK.out;rw[e] at h1;omega
   have hh8:=hC8.holds hkr H6.out.1.hold;have G6:w8.cell? ⟨n,0,none⟩=some (.string l.file)∧w8.cell? ⟨n,1,none⟩=some (.int .i64 l.no):=⟨hC8.cell (p:=⟨n,0,none⟩) hon D6.1,hC8.cell (p:=⟨n,1,none⟩) hon D6.2⟩;have K6:(w8.setCell ⟨rb,8,none⟩ (.slice (some ⟨g,0,none⟩) (lsl+1) cap)).cell? ⟨n,0,none⟩=some (.string l.file)∧(w8.setCell ⟨rb,8,none⟩ (.slice (some ⟨g,0,none⟩) (lsl+1) cap)).cell? ⟨n,1,none⟩=some (.int .i64 l.no):=⟨cell_far (g:=rb) (i:=8) (j:=0) hrn _ G6.1,cell_far (g:=rb) (i:=8) (j:=1) hrn _ G6.2⟩;have k8:=hh8.cell 8;have f8:=hh8.free 8;simp at k8;have H8:=hidH5 hC8 ho8 hat8 hh8 hl8;clear hC8 ho8 hg8 hat8 hh8 hl8 hkr hon hrow;refine hK.out _ _ ?_ (fun hHeld4=>?_)
   ·(try dsimp only)
    first|exact⟨d0,d1⟩|exact D6|exact E6|exact G6|exact K6
   clear hK K hHeld3
   (try go_frame)
   refine tkH 15 38 ?_;refine tkH 16 39 ?_;refine rdyH [17] ?_;refine AllReadyH.cons rfl (fun K hK=>?_) AllReadyH.nil;go_simp;refine hK.out _ _ ?_ (fun hHeld5=>?_)
   ·(try dsimp only)
    first|exact⟨d0,d1⟩|exact D6|exact E6|exact G6|exact K6
   clear hK K hHeld4
   (try go_frame)
   refine wpAnyH_done (by kernel_rfl) ?_ _;go_wp2
   first|refine bodyPost_ret (results_none rfl _ _ _) rfl ?_|go_end0
   have hlsl:=HLS.out;subst hlsl;have hA:=line_done (d:=⟨l.file,l.no,ft⟩) H6.out.1 HL.out.1 HL.out.2.2.1 H8.out.1 H8.out.2.1 H8.out.2.2.1 H8.out.2.2.2.1 H8.out.2.2.2.2 hgb;have hM:=line_mv H6.out.1 HL.out.1 HL.out.2.2.1 H8.out.1 H8.out.2.2.1 H8.out.2.2.2.2 (cap:=cap);refine⟨rfl,?_⟩;rw[HT.out.2,HL.out.2.2.2.1];exact⟨_,{ v with lv:=.slice (some ⟨g,0,none⟩) (ls.length+1) cap },rv,hv,hA,(H4.out.2.1.trans (Mv.below ((Below.refl wc.heap.size wc).drew) κ)).trans (H6.out.2.trans hM)⟩
end
theorem word_zero1 (w:World):(zeroValue 124).run Tryz.prog w=.ok (.agg #[.nilFunc,.bool false]) w:=by kernel_rfl
theorem word_under:Tryz.prog.underlying 79=some (.map 9 124):=by kernel_rfl
def wordOf (n:ByteArray):Value:=match findF wordsF n with|some e=>e.v|none=>.agg #[.nilFunc,.bool false]
theorem word_look {w:World}{wm:Nat} (h:FsMap w Tryz.prog tTx wm wordsF) (n:ByteArray) (hn:n.size≤1000000000) :
  (Instr.lookup 79 (.map (some wm)) (.string n) true).run Tryz.prog w=.ok (.tuple #[wordOf n,.bool (findF wordsF n).isSome]) w:=by
 rw[FsMap.lookz_ok h str_under word_under (word_zero1 w) (s:=n) (by unfold maxLen;omega)];rfl
theorem find_head {e:Fe}{es:List Fe}{n:ByteArray}:findF (e::es) n=if e.name=n then some e else findF es n:=by
 unfold findF
 by_cases h:e.name=n
 ·rw[if_pos h,List.find?_cons_of_pos (by simp[h])]
 ·rw[if_neg h,List.find?_cons_of_neg (by simp[h])]
theorem words_none {n:ByteArray} (h1:ofB wIf≠n) (h2:ofB wElse≠n) (h3:ofB wEnd≠n) (h4:ofB wIncl≠n) (h5:ofB wSet≠n) (h6:ofB wUnset≠n):findF wordsF n=none:=by
 unfold wordsF;rw[find_head,if_neg h1,find_head,if_neg h2,find_head,if_neg h3,find_head,if_neg h4,find_head,if_neg h5,find_head,if_neg h6];rfl
theorem words_if:findF wordsF (ofB wIf)=some ⟨ofB wIf,wordV 54 true,[]⟩:=by unfold wordsF;rw[find_head,if_pos rfl]
theorem words_else:findF wordsF (ofB wElse)=some ⟨ofB wElse,wordV 55 true,[]⟩:=by unfold wordsF;rw[find_head,if_neg (by decide),find_head,if_pos rfl]
theorem words_end:findF wordsF (ofB wEnd)=some ⟨ofB wEnd,wordV 56 true,[]⟩:=by unfold wordsF;rw[find_head,if_neg (by decide),find_head,if_neg (by decide),find_head,if_pos rfl]
theorem words_incl:findF wordsF (ofB wIncl)=some ⟨ofB wIncl,wordV 57 false,[]⟩:=by unfold wordsF;rw[find_head,if_neg (by decide),find_head,if_neg (by decide),find_head,if_neg (by decide),find_head,if_pos rfl]
theorem words_set:findF wordsF (ofB wSet)=some ⟨ofB wSet,wordV 58 false,[]⟩:=by unfold wordsF;rw[find_head,if_neg (by decide),find_head,if_neg (by decide),find_head,if_neg (by decide),find_head,if_neg (by decide),find_head,if_pos rfl]
theorem words_unset:findF wordsF (ofB wUnset)=some ⟨ofB wUnset,wordV 59 false,[]⟩:=by unfold wordsF;rw[find_head,if_neg (by decide),find_head,if_neg (by decide),find_head,if_neg (by decide),find_head,if_neg (by decide),find_head,if_neg (by decide),find_head,if_pos rfl]
end Go.Proofs.YtkkebmciiiajeaaGreatDoor
