/- part 14 -/
import Derived.Test.YtkdknllcllhpgaaGreatDoorK0
import Derived.Test.YtkdknllcllhpgaaGreatDoorK10
import Derived.Test.YtkdknllcllhpgaaGreatDoorK11
import Derived.Test.YtkdknllcllhpgaaGreatDoorK13
set_option linter.unusedSimpArgs false
set_option linter.unusedVariables false
set_option maxHeartbeats 16000000
set_option maxRecDepth 100000
namespace Go.Proofs.YtkdknllcllhpgaaGreatDoor
open Go.RowKit Go.Bd
theorem blocks_count:∀l:List Ln,(blocksOf l).length≤l.length
 | []=>Nat.le_refl _
 | x::rest=>by
  have h1:=step_one x rest;have h2:=blocks_count (rest.drop (stepR x rest).1);rw[blocksOf_cons,List.length_append,List.length_cons];rw[List.length_drop] at h2;omega
termination_by l=>l.length
decreasing_by simp;omega
theorem diags_count:∀l:List Ln,(diagsOf l).length≤3*wtX l
 | []=>Nat.zero_le _
 | x::rest=>by
  have h1:=step_ds x rest;have h2:=diags_count (rest.drop (stepR x rest).1);have h3:=wtX_split rest (stepR x rest).1;rw[diagsOf_cons,List.length_append,wtX];omega
termination_by l=>l.length
decreasing_by simp;omega
def firstB:List Bl→Bool
 | []=>true
 | b::_=>!opensB b
theorem firstD_eq (name:ByteArray) (bs:List Bl):firstD name bs=if firstB bs then [⟨name,1,13,⟨#[]⟩⟩] else []:=by
 cases bs with
 | nil=>rfl
 | cons b l =>
  show (if opensB b then [] else _)=if (!opensB b)=true then _ else _
  cases opensB b<;>rfl
theorem rowD_snoc (l:List Dg) (d:Dg):rowD (l++[d])=rowD l++dgCells d:=by rw[rowD_append];show _++(dgCells d++[])=_;rw[List.append_nil]
theorem ch_zero (w:World):(zeroValue 27).run Tryz.prog w=.ok (.agg #[.string ⟨#[]⟩,.slice none 0 0,.slice none 0 0,.slice none 0 0,.slice none 0 0,.slice none 0 0]) w:=by kernel_rfl
theorem dgs_under:Tryz.prog.underlying 23=some (.slice tDg):=by kernel_rfl
theorem at_under:Tryz.prog.underlying 25=some (.slice tAt):=by kernel_rfl
theorem row_news {w:World}{b sz n c:Nat}{t:TypeId}{A:Option Addr}{xs:List Value} (h:w.ownsRow b t sz (.slice A n c) n xs) (hn:n=0→sz*n=0→xs=[]):∀(j:Nat) u,xs[j]? = some u→∃ad,A=some ad∧w.cell? (ad.add j)=some u:=fun j u hu=>by
 rcases h.2 with ⟨h1,h2⟩|⟨g,cap,cur,h1,_⟩
 ·subst h2;have:=h.1
  rw[Nat.zero_mul] at this;rw[List.length_eq_zero_iff.1 this] at hu;cases hu
 ·injection h1 with h1 _ _
  subst h1;exact⟨_,rfl,h.cells (g:=g) rfl j u hu⟩
theorem rowD_one:∀{l:List Dg},∀u∈rowD l,u.oneCell'=true
 | [],u,h=>by cases h
 | d::l,u,h=>by
  rw[rowD] at h
  rcases List.mem_append.1 h with h|h
  ·simp only[dgCells,List.mem_cons,List.not_mem_nil,or_false] at h
   rcases h with rfl|rfl|rfl|rfl<;>rfl
  ·exact rowD_one u h
def ChOwn (w:World) (b:Nat) (v:Value) (c:Ch):Prop:=∃Ab nb cb Ad nd cd Af nf cf Aa na ca Au nu cu,v=.agg #[.string c.name,.slice Ab nb cb,.slice Ad nd cd,.slice Af nf cf,.slice Aa na ca,.slice Au nu cu]∧w.ownsRow b tDg 4 (.slice Ad nd cd) c.diags.length (rowD c.diags)
theorem chapter_own {w:World}{S T:Nat→Prop}{sv av:Value}{src:List Sc}{attrs:List At} (hsc:ScS w S sv src) (hat:AtS w T av attrs) (hS:∀k,S k→k<w.heap.size) (hT:∀k,T k→k<w.heap.size) (hsn:src.length≤1000000000) (han:attrs.length≤1000000000)
  (hz:∀s∈src,s.text.size≤99999) (haz:∀a∈attrs,a.name.size≤100000∧a.value.size≤100000) {m:Int} (hg:Glob m w) (h3:3≤w.heap.size) (name:ByteArray) (hnz:name.size≤100000) (hwt:wtX (readS src attrs name).lines≤100000000) (hkw:∀s∈src,∀t∈linesT s.text,okW t=true) (hkb:okAll (readS src attrs name).lines=true) :
  Calls Tryz.prog 21 #[sv,av,.string name] w fun e w'=>∃cv,e=.returned cv∧ChAt w' w'.heap.size cv (chapM src attrs name)∧Below w.heap.size w w'∧ChOwn w' w.heap.size cv (chapM src attrs name):=by
 have hzc:=ch_zero;have hlm:=readS_lm hz attrs name;have hB0:=(Below.refl w.heap.size w).alloc (Nat.le_refl _) (.cells #[.string ⟨#[]⟩,.slice none 0 0,.slice none 0 0,.slice none 0 0,.slice none 0 0,.slice none 0 0] 27);have hX0:=Holds.new w 27 #[.string ⟨#[]⟩,.slice none 0 0,.slice none 0 0,.slice none 0 0,.slice none 0 0,.slice none 0 0];obtain⟨W0,hW0⟩:∃W0,w.alloc (.cells #[.string ⟨#[]⟩,.slice none 0 0,.slice none 0 0,.slice none 0 0,.slice none 0 0,.slice none 0 0] 27)=W0:=⟨_,rfl⟩;rw[hW0] at hB0 hX0;have hg0:Glob m W0:=hg.chg (Chg.below hB0 (fun _=>False)) (fun _ h=>h.elim);have hsc0:ScS W0 S sv src:=TwoS.below hsc hB0;have hat0:AtS W0 T av attrs:=TwoS.below hat hB0;have hRd:=aread_any hsc0 hat0 (fun k hk=>Nat.lt_of_lt_of_le (hS k hk) hB0.size) (fun k hk=>Nat.lt_of_lt_of_le (hT k hk) hB0.size) hsn han hz haz hg0 (by have:=hB0.size;omega) name hnz hkw;have hch:chapM src attrs name=chapR (readS src attrs name) (firstA attrs).attrs name:=rfl;obtain⟨r,hr⟩:∃r,readS src attrs name=r:=⟨_,rfl⟩;rw[hr] at hkb;rw[hr] at hRd hch hlm hwt;obtain⟨q,hq⟩:∃q,w.heap.size=q:=⟨_,rfl⟩;have HH:=hidH8 hRd hat hT hg0 haz hch hB0 hX0;have HW:=hidH2 hW0 hq;clear hsc hat hS hT hz haz hg hsc0 hat0 hRd hr hch hB0 hX0 hg0
 go_enter Tryz.func21,Tryz.ntmps21
 go_wp2_with fail
 (try rw[HW.out.1])
 clear hW0 hq hzc;refine HH.out.1.mono ?_;rintro e W1 ⟨lv,dv,fv,kv,rfl,hl,hd,hf,hk,hb1⟩;obtain⟨Al,cl,hlv,_⟩:=own_rowL hl;obtain⟨Ad,cd,hdv,_⟩:=own_rowL hd;obtain⟨Af,cf,hfv,_⟩:=own_rowL hf;obtain⟨Ak,ck,hkv,_⟩:=own_rowL hk;subst hlv;subst hdv;subst hfv;subst hkv;have hP:=bparse_any (LinesAt.own hl rfl (S:=fun k=>k<W1.heap.size) (fun k hk=>(own_lt hl hk).2)) (fun _ h=>h) (HH.out.2.2.2.1.chg (Chg.below hb1 (fun _=>False)) (fun _ h=>h.elim)) hwt (by omega) hkb;have H1:=hidH5 hP hd hf hk hb1;clear hP hd hf hk hb1 hl;obtain⟨nl,hnl⟩:∃nl,r.lines.length=nl:=⟨_,rfl⟩;obtain⟨nd,hnd⟩:∃nd,r.diags.length=nd:=⟨_,rfl⟩;obtain⟨nf,hnf⟩:∃nf,r.files.length=nf:=⟨_,rfl⟩;obtain⟨nk,hnk⟩:∃nk,(sortN r.asked).length=nk:=⟨_,rfl⟩;rw[hnl] at H1;rw[hnd] at H1;rw[hnf] at H1;rw[hnk] at H1;rw[hnl,hnd,hnf,hnk];have HN:=hidH4 hnl hnd hnf hnk;have hlm2:nl≤16384∧nd≤32769∧nf≤16385∧nk≤1638416384:=by
  rw[←hnl,←hnd,←hnf,←hnk];unfold sortN;rw[List.length_map,List.length_mergeSort,List.length_map];exact hlm
 clear hnl hnd hnf hnk hlm
 go_wp2_with fail
 refine H1.out.1.mono ?_;rintro e W2 ⟨O,F,rb,bv,dv2,rfl,hR,hO,hF,hb2⟩;obtain⟨Ab,cb,hbv⟩:=hR.bform;obtain⟨Ae,ce,hdv2⟩:=hR.dform;subst hbv;subst hdv2;have hbc:=blocks_count r.lines;have hdc:=diags_count r.lines;rw[HN.out.1] at hbc;obtain⟨bs,hbs⟩:∃bs,blocksOf r.lines=bs:=⟨_,rfl⟩;obtain⟨es,hes⟩:∃es,diagsOf r.lines=es:=⟨_,rfl⟩;rw[hbs] at hR hbc;rw[hes] at hR hdc;rw[hbs,hes];obtain⟨nb,hnb⟩:∃nb,bs.length=nb:=⟨_,rfl⟩;obtain⟨ne,hne⟩:∃ne,es.length=ne:=⟨_,rfl⟩;rw[hnb] at hR hbc;rw[hne] at hR hdc;rw[hnb,hne];have hblk:∀W,Below W2.heap.size W2 W→∀(k:Nat) x,bs[k]? = some x→∃g sA sc rA rc,Ab=some ⟨g,0,none⟩∧Forest W (· < W2.heap.size) (.slice sA x.spans.length sc) x.spans ∧
   W.cell? ⟨g,k*9,none⟩=some (.int .u8 (x.kind:Int))∧W.cell? ⟨g,k*9+1,none⟩=some (.int .i64 (x.level:Int))∧W.cell? ⟨g,k*9+2,none⟩=some (.bool x.ordered)∧W.cell? ⟨g,k*9+3,none⟩=some (.string x.label)∧W.cell? ⟨g,k*9+4,none⟩=some (.string x.text) ∧
   W.cell? ⟨g,k*9+5,none⟩=some (.slice sA x.spans.length sc)∧W.cell? ⟨g,k*9+6,none⟩=some (.slice rA x.rows.length rc)∧W.cell? ⟨g,k*9+7,none⟩=some (.string x.file)∧W.cell? ⟨g,k*9+8,none⟩=some (.int .i64 x.line):=fun W hW k x hx=>by
  obtain⟨g,sA,sc,rA,rc,h1,h2,h3,_,c0,c1,c2,c3,c4,c5,c6,c7,c8⟩:=hR.blk_at hx;have hgl:=hR.ltO g h2;exact⟨g,sA,sc,rA,rc,h1,h3.chg (Chg.below hW (fun _=>False)) (fun k hk=>hR.ltF k hk) (fun _ _ h=>h),(hW.cell (p:=⟨g,k*9,none⟩) hgl).trans c0,(hW.cell (p:=⟨g,k*9+1,none⟩) hgl).trans c1,(hW.cell (p:=⟨g,k*9+2,none⟩) hgl).trans c2,(hW.cell (p:=⟨g,k*9+3,none⟩) hgl).trans c3,(hW.cell (p:=⟨g,k*9+4,none⟩) hgl).trans c4,(hW.cell (p:=⟨g,k*9+5,none⟩) hgl).trans c5,(hW.cell (p:=⟨g,k*9+6,none⟩) hgl).trans c6,(hW.cell (p:=⟨g,k*9+7,none⟩) hgl).trans c7,(hW.cell (p:=⟨g,k*9+8,none⟩) hgl).trans c8⟩
 have hend:∀(W:World) (S:Nat→Prop),Chg W2 W S→(∀k,S k→k<W1.heap.size∨W2.heap.size≤k)→BlocksAt W W.heap.size (.slice Ab nb cb) bs:=fun W S hW hS=>by
  obtain⟨kvs,hkl,hbrow,htrees⟩:=hR.bl;rw[←hnb] at hbrow ⊢;refine BlocksAt.own (hW.owns hbrow (fun k hk hs=>?_)) hkl (fun j x kv hx hk=>?_) (Nat.le_refl _)
  ·have h1:=(hR.oB k (by rw[←hnb];exact hk)).1;have h2:=hO k h1;have h3:=hR.ltO k h1
   rcases hS k hs with h|h<;>omega
  ·exact TreesAt.chg (F:=F) (G:=(· < W.heap.size)) htrees hW (fun k hk=>Nat.lt_of_lt_of_le (hR.ltF k hk) hW.size) (fun k hk hs=>by have h2:=hF k hk;have h3:=hR.ltF k hk;rcases hS k hs with h|h<;>omega) j x kv hx hk
 have hdrow:W2.ownsRow 0 tDg 4 (.slice Ae ne ce) ne (rowD es):=by have h:=hR.dg;rw[hne] at h;exact h
 have hb12:Below w.heap.size w W2:=by
  have h1:=HH.out.2.2.2.2.2.2.1;have h2:=h1.trans (H1.out.2.2.2.2.mono h1.size);exact h2.trans (hb2.mono h2.size)
 obtain⟨C,hC⟩:∃C,W2.heap.size=C:=⟨_,rfl⟩;have hX3:=Holds.new W2 27 #[.string name,.slice Ab nb cb,.slice none 0 0,.slice Af nf cf,.slice none 0 0,.slice none 0 0];have hB3:=(Below.refl W2.heap.size W2).alloc (Nat.le_refl _) (.cells #[.string name,.slice Ab nb cb,.slice none 0 0,.slice Af nf cf,.slice none 0 0,.slice none 0 0] 27);have hs3:(W2.alloc (.cells #[.string name,.slice Ab nb cb,.slice none 0 0,.slice Af nf cf,.slice none 0 0,.slice none 0 0] 27)).heap.size=C+1:=by rw[World.size_alloc,hC]
 obtain⟨W3,hW3⟩:∃W3,W2.alloc (.cells #[.string name,.slice Ab nb cb,.slice none 0 0,.slice Af nf cf,.slice none 0 0,.slice none 0 0] 27)=W3:=⟨_,rfl⟩;rw[hW3] at hX3 hB3 hs3;rw[hC] at hX3 hB3;have hch3:ChR W3 C name (.slice Ab nb cb) (.slice Af nf cf) (.slice none 0 0) (.slice none 0 0) (.slice none 0 0) [] [] []:=⟨hX3,own_nil _ _ _ _,own_nil _ _ _ _,own_nil _ _ _ _,(fun k hk=>by cases hk),(fun k hk=>by cases hk),(fun k hk=>by cases hk)⟩;have hd3:W3.ownsRow 0 tDg 4 (.slice Ad nd cd) nd (rowD r.diags):=by
  have h1:=(Chg.below hb2 (fun _=>False)).owns H1.out.2.1 (fun _ _ h=>h);exact (Chg.below (hC ▸ hB3) (fun _=>False)).owns (own_up h1 (fun k _=>Nat.zero_le k)) (fun _ _ h=>h)
 obtain⟨i0,hi0,hz0,hz1,hz2⟩:=info_parts diagA_info;have HI:=hidH4 hi0 hz0 hz1 hz2;have H2:=hidH10 hblk hend hdrow hb12 hbs hes hnb hne hb2 hC;have H3:=hidH5 hch3 hd3 hB3 hs3 (row_news hd3 (fun h _=>List.length_eq_zero_iff.1 (by rw[rowD_length,HN.out.2.1,h])));have hc2:=hX3.cell 2;simp at hc2;have HW3:=hidH2 hW3 hC;clear hW3 hR hO hF hb2 hblk hend hdrow hb12 hbs hes hnb hne hC hX3 hB3 hs3 hch3 hd3 hi0 hz0 hz1 hz2
 go_upto_region 4 with fail
 (try rw[HW3.out.1])
 (try rw[HW3.out.2])
 go_upto_region 5 with (at_builtin;refine wpList_append_all (by rfl) _ _ _ (by rfl) (C+1) 55 i0 _ 4 48 dgs_under HI.out.1 HI.out.2.1 HI.out.2.2.1 HI.out.2.2.2 rfl (by omega) (.slice none 0 0) 0 [] (by rfl) (own_nil _ _ _ _) Ad nd cd (rowD r.diags) (by rfl) (by rw[rowD_length,HN.out.2.1]) H3.out.2.2.2.2 (fun u hu=>rowD_one u hu) nd (Nat.zero_add nd) (rowD r.diags) (by rfl) (by unfold maxLen;omega) (by omega) (by rw[H3.out.2.2.2.1];exact Nat.le_refl _) ?_;intro A4 c4 w4 ho4 hg4 hat4;have hC4:Chg W3 w4 (fun k=>(Value.slice none 0 0).ownBlock=some k):=(Chg.refl W3 _).trans (Chg.grown hg4) (fun _ _ h=>h.symm);have hh4:=hC4.holds (fun e=>by cases e) H3.out.1.hold;have k4:=hh4.cell 2;have f4:=hh4.free 2;simp at k4;have H4:=hidH3 hC4 ho4 hat4;clear hC4 ho4 hat4 hg4 hh4)
 obtain⟨W5,hW5⟩:∃W5,w4.setCell ⟨C,2,none⟩ (.slice A4 nd c4)=W5:=⟨_,rfl⟩;have hch5:=ChR.set_d (ds':=r.diags) H3.out.1 H4.out.1 (by rw[HN.out.2.1];exact H4.out.2.1) (fun k hk=>(H4.out.2.2 k hk).imp id (fun e=>Nat.le_of_eq e.symm));rw[hW5] at hch5;have hB5:Below C W2 W5:=H3.out.2.2.1.trans hch5.2;have hs5:C+1≤W5.heap.size:=Nat.le_trans (Nat.le_of_eq H3.out.2.2.2.1.symm) hch5.2.size;have he5:W5.ownsRow 0 tDg 4 (.slice Ae ne ce) ne (rowD es):=(Chg.below (H2.out.2.2.2.2.2.2.2.2.2 ▸ hB5) (fun _=>False)).owns H2.out.2.2.1 (fun _ _ h=>h);have hc2:=hch5.1.hold.cell 2;simp at hc2;have H5:=hidH4 hch5.1 hB5 hs5 (row_news he5 (fun h _=>List.length_eq_zero_iff.1 (by rw[rowD_length,H2.out.2.2.2.2.2.2.2.1,h])));have HW5:=Lib.hid hW5;clear hch5 hB5 hs5 he5 k4 f4
 go_upto_region 6 with (at_builtin;refine wpList_append_all (by rfl) _ _ _ (by rfl) (C+1) 55 i0 _ 4 48 dgs_under HI.out.1 HI.out.2.1 HI.out.2.2.1 HI.out.2.2.2 rfl (by omega) (.slice A4 nd c4) nd (rowD r.diags) (by rfl) (HN.out.2.1 ▸ H5.out.1.d) Ae ne ce (rowD es) (by rfl) (by rw[rowD_length,H2.out.2.2.2.2.2.2.2.1]) H5.out.2.2.2 (fun u hu=>rowD_one u hu) (nd+ne) rfl (rowD (r.diags++es)) (by rw[rowD_append]) (by unfold maxLen;omega) (by omega) H5.out.2.2.1 ?_;intro A6 c6 w6 ho6 hg6 hat6;have hC6:Chg W5 w6 (fun k=>(Value.slice A4 nd c4).ownBlock=some k):=(Chg.refl W5 _).trans (Chg.grown hg6) (fun _ _ h=>h.symm);have hh6:=hC6.holds (fun e=>by have h1:=(own_lt H5.out.1.d e).1;omega) H5.out.1.hold;have k6:=hh6.cell 2;have f6:=hh6.free 2;simp at k6;have H6:=hidH3 hC6 ho6 hat6;clear hC6 ho6 hat6 hg6 hh6)
 obtain⟨W7,hW7⟩:∃W7,w6.setCell ⟨C,2,none⟩ (.slice A6 (nd+ne) c6)=W7:=⟨_,rfl⟩;have hdl:(r.diags++es).length=nd+ne:=by rw[List.length_append,HN.out.2.1,H2.out.2.2.2.2.2.2.2.1]
 have hch7:=ChR.set_d (ds':=r.diags++es) H5.out.1 H6.out.1 (by rw[hdl];exact H6.out.2.1) (fun k hk=>(H6.out.2.2 k hk).imp id (fun e=>Nat.le_of_eq e.symm));rw[hW7] at hch7;have hB7:Below C W2 W7:=H5.out.2.1.trans hch7.2;have hs7:C+1≤W7.heap.size:=Nat.le_trans H5.out.2.2.1 hch7.2.size;have hB72:Below W2.heap.size W2 W7:=by rw[H2.out.2.2.2.2.2.2.2.2.2];exact hB7
 obtain⟨ds0,hds0⟩:∃ds0,r.diags++es=ds0:=⟨_,rfl⟩;obtain⟨n0,hn0⟩:∃n0,nd+ne=n0:=⟨_,rfl⟩;have hn0b:n0≤310000000:=by omega
 rw[hds0,hn0] at hch7;rw[hds0,hn0] at hdl;rw[hn0] at hW7;rw[hn0];have H7:=hidH6 hch7.1 hB7 hs7 hB72 hds0 hdl;have HW7:=Lib.hid hW7;clear hch7 hB7 hs7 hB72 hds0 hdl f6 k6 hc2 hn0 H6 H5 H4 H3 HW5 HW3 hW5
 (try rw[HW7.out])
 clear hW7
 go_cut [57] (fun s57 wx=>s57=.bool (firstB bs)∧Hid (Below W7.heap.size W7 wx))
 case first =>
  obtain hb|⟨x,rest,hb⟩:bs=[]∨∃x rest,bs=x::rest:=by
   cases bs with
   | nil=>exact .inl rfl
   | cons x l=>exact .inr ⟨x,l,rfl⟩
  ·have hnb0:nb=0:=by rw[←H2.out.2.2.2.2.2.2.1,hb];rfl
   subst hnb0;have HB:=Lib.hid hb;clear hb
   go_wp2_with fail
   go_meet
   case rel=>exact⟨by rw[HB.out];rfl,Lib.hid (Below.refl _ _)⟩
  ·have hnb1:1≤nb:=by rw[←H2.out.2.2.2.2.2.2.1,hb];simp
   have hfb:firstB bs=!opensB x:=by rw[hb];rfl
   obtain⟨g,sA,sc,rA,rc,hAb,hfo,c0,c1,c2,c3,c4,c5,c6,c7,c8⟩:=H2.out.1 W7 H7.out.2.2.2.1 0 x (by rw[hb];rfl);subst hAb;simp only[Nat.zero_mul,Nat.zero_add] at c0 c1 c2 c3 c4 c5 c6 c7 c8;have ho:=opens_any x (.slice sA x.spans.length sc,.slice rA x.rows.length rc) W7;unfold blCells at ho;have HO:=hidH2 ho hfb;have hi1:¬nb=0:=by omega
   have hi2:(0:Int)<(nb:Int):=by omega
   clear ho hfb hfo hb
   go_wp2_with (go_at_call 38;refine HO.out.1.mono ?_;rintro e w8 ⟨rfl,hb8⟩)
   go_meet
   case rel =>
    have e:((nb:Int)==0)=false:=by simp;omega
    exact⟨by rw[HO.out.2,e,Bool.false_or],Lib.hid hb8⟩
 case rest =>
  obtain⟨h57,HB8⟩:=hcut;subst h57;have hch8:=H7.out.1.below HB8.out;have hB8:Below C W2 wc:=H7.out.2.1.trans (HB8.out.mono (by have:=H7.out.2.2.1;omega));have hs8:C+1≤wc.heap.size:=Nat.le_trans H7.out.2.2.1 HB8.out.size;have H8:=hidH3 hch8 hB8 hs8;clear hch8 hB8 hs8;obtain⟨fb,hfb⟩:∃fb,firstB bs=fb:=⟨_,rfl⟩;have hfd:=firstD_eq name bs;rw[hfb] at hfd ⊢;have HFB:=Lib.hid hfd;clear hfb hfd
  go_upto_if 57 with fail
  go_cut [] (fun wx=>Hid (∃A9 c9,ChR wx C name (.slice Ab nb cb) (.slice Af nf cf) (.slice A9 (ds0++firstD name bs).length c9) (.slice none 0 0) (.slice none 0 0) (ds0++firstD name bs) [] []∧Below C W2 wx∧C+1≤wx.heap.size))
  case first =>
   cases fb
   ·go_wp2_with fail
    go_meet
    case rel =>
     refine Lib.hid ⟨A6,c6,?_,H8.out.2.1,H8.out.2.2⟩;rw[HFB.out,if_neg (by decide),List.append_nil,H7.out.2.2.2.2.2];exact H8.out.1
   ·have hc2:=H8.out.1.hold.cell 2;simp at hc2;have hCl:C<wc.heap.size:=by have:=H8.out.2.2;omega
    have e2:(wc.alloc (.cells #[.string name,.int .i64 1,.int .i64 13,.string ⟨#[]⟩] 55)).cell? ⟨C,2,none⟩=some (.slice A6 n0 c6):=by rw[World.cell?_alloc_lt _ _ _ hCl];exact hc2
    have hD:wc.ownsRow (C+1) tDg 4 (.slice A6 n0 c6) n0 (rowD ds0):=by have h:=H8.out.1.d;rw[H7.out.2.2.2.2.2] at h;exact h
    have HD:=hidH2 hD hCl;clear hD
    go_wp2_with (at_builtin;refine wpList_append_lies _ rfl _ _ 23 rfl (C+1) 55 i0 _ 4 48 dgs_under HI.out.1 HI.out.2.1 HI.out.2.2.1 HI.out.2.2.2 rfl (by omega) (.slice A6 n0 c6) n0 (rowD ds0) (by rfl) (HD.out.1.alloc _) ⟨wc.heap.size,0,none⟩ 1 1 [.string name,.int .i64 1,.int .i64 13,.string ⟨#[]⟩] rfl rfl (World.news_of_block (cs:=#[.string name,.int .i64 1,.int .i64 13,.string ⟨#[]⟩]) (t:=55) (fr:=(0,0)) (heap_alloc_new wc _)) (by simp[Value.oneCell']) (by omega) (by unfold maxLen;omega) (by omega) (by simp;omega) (wc.heap.size+1) (by simp) ?_;intro g cap w9 ho9 hg9 hat9 hl9;have hC9:Chg wc w9 (fun k=>(Value.slice A6 n0 c6).ownBlock=some k):=((Chg.refl wc _).alloc _).trans (Chg.grown hg9) (fun _ _ h=>h.symm);have hh9:=hC9.holds (fun e=>by have h1:=(own_lt HD.out.1 e).1;omega) H8.out.1.hold;have k9:=hh9.cell 2;have f9:=hh9.free 2;simp at k9;have H9:=hidH4 hC9 ho9 hat9 hl9;clear hC9 ho9 hat9 hg9 hh9 hl9)
    go_meet
    case rel =>
     have hsd:=ChR.set_d (D':=.slice (some ⟨g,0,none⟩) (n0+1) cap) (ds':=ds0++[⟨name,1,13,⟨#[]⟩⟩]) H8.out.1 H9.out.1 (by
      rw[rowD_snoc,List.length_append,List.length_singleton,H7.out.2.2.2.2.2];exact H9.out.2.1) (fun k hk=>by
      have e1:g=k:=by simpa [Value.ownBlock] using hk
      rw[←e1]
      rcases H9.out.2.2.1 with h|h
      ·exact .inl h
      ·exact .inr (by omega))
     refine Lib.hid ⟨some ⟨g,0,none⟩,cap,?_,H8.out.2.1.trans hsd.2,Nat.le_trans H8.out.2.2 hsd.2.size⟩;rw[HFB.out]
     first|rw[if_pos rfl]|rw[if_pos trivial]
     rw[List.length_append,H7.out.2.2.2.2.2];exact hsd.1
  case rest =>
   obtain⟨A9,c9,h9⟩:=hcut.out;have hb9:Below W2.heap.size W2 wc:=by have:=h9.2.1;rw[H2.out.2.2.2.2.2.2.2.2.2];exact this
   obtain⟨ds1,hds1⟩:∃ds1,ds0++firstD name bs=ds1:=⟨_,rfl⟩;rw[hds1] at h9;have hds1l:ds1.length≤n0+1:=by
    rw[←hds1,List.length_append,H7.out.2.2.2.2.2,firstD_eq];split<;>simp
   obtain⟨n1,hn1⟩:∃n1,ds1.length=n1:=⟨_,rfl⟩;rw[hn1] at h9 hds1l;have H9:=hidH3 h9 hds1 hn1;clear h9 hb9 hds1 hn1 hcut HFB H8
   go_wp2_with fail
   go_loopg [67] nb (fun q i wr=>∃(k:Nat) (A9:Option Addr) (c9 n9:Nat),k+q=nb∧i=.int .i64 (k:Int)∧n9≤n1+k∧Hid (ChR wr C name (.slice Ab nb cb) (.slice Af nf cf) (.slice A9 n9 c9) (.slice none 0 0) (.slice none 0 0) (ds1++againD (bs.take k).tail) [] []∧Below C W2 wr∧C+1≤wr.heap.size∧(ds1++againD (bs.take k).tail).length=n9))
   case atStart =>
    have e:ds1++againD (bs.take 0).tail=ds1:=by unfold againD;simp
    exact⟨0,A9,c9,n1,by omega,rfl,Nat.le_refl _,Lib.hid ⟨by rw[e];exact H9.out.1.1,H9.out.1.2.1,H9.out.1.2.2,by rw[e];exact H9.out.2.2⟩⟩
   case round =>
    obtain⟨k,A9,c9,n9,hk,rfl,hn9,HR⟩:=hrel
    by_cases hlt:k<nb
    ·obtain⟨x,hx⟩:∃x,bs[k]? = some x:=⟨_,List.getElem?_eq_getElem (by have:=H2.out.2.2.2.2.2.2.1;omega)⟩;have hbw:Below W2.heap.size W2 wr:=by have h:=HR.out.2.1;rw[H2.out.2.2.2.2.2.2.2.2.2];exact h
     obtain⟨g,sA,sc,rA,rc,hAb,hfo,c0,c1,c2,c3,c4,c5,c6,c7,c8⟩:=H2.out.1 wr hbw k x hx;subst hAb;have hbl:=blocks_sm _ r.lines (Nat.le_refl _) hwt x (by rw[H2.out.2.2.2.2.1];exact List.mem_of_getElem? hx);have hPl:∀W,Below wr.heap.size wr W→Calls Tryz.prog 39 #[.slice sA x.spans.length sc] W fun e w'=>e=.returned (.string ⟨(sayL x.spans).toArray⟩)∧Below W.heap.size W w':=fun W hW=>Plain_any x.spans hbl.1.1 hbl.2 _ W (hfo.chg (Chg.below hW (fun _=>False)) (fun k hk=>by have h1:=hW.size;have h2:=hbw.size;omega) (fun _ _ h=>h))
     have htk:bs.take (k+1)=bs.take k++[x]:=by rw[List.take_add_one,hx];rfl
     have hBx:=(Below.refl wr.heap.size wr).alloc (Nat.le_refl _) (.cells #[.int .u8 (x.kind:Int),.int .i64 (x.level:Int),.bool x.ordered,.string x.label,.string x.text,.slice sA x.spans.length sc,.slice rA x.rows.length rc,.string x.file,.int .i64 x.line] 72);have hXx:=Holds.new wr 72 #[.int .u8 (x.kind:Int),.int .i64 (x.level:Int),.bool x.ordered,.string x.label,.string x.text,.slice sA x.spans.length sc,.slice rA x.rows.length rc,.string x.file,.int .i64 x.line];have hch6:=HR.out.1.below hBx;have hs6:(wr.alloc (.cells #[.int .u8 (x.kind:Int),.int .i64 (x.level:Int),.bool x.ordered,.string x.label,.string x.text,.slice sA x.spans.length sc,.slice rA x.rows.length rc,.string x.file,.int .i64 x.line] 72)).heap.size=wr.heap.size+1:=World.size_alloc _ _;have ho:=opens_any x (.slice sA x.spans.length sc,.slice rA x.rows.length rc) (wr.alloc (.cells #[.int .u8 (x.kind:Int),.int .i64 (x.level:Int),.bool x.ordered,.string x.label,.string x.text,.slice sA x.spans.length sc,.slice rA x.rows.length rc,.string x.file,.int .i64 x.line] 72));unfold blCells at ho;dsimp only at ho;have hBC:Below C W2 (wr.alloc (.cells #[.int .u8 (x.kind:Int),.int .i64 (x.level:Int),.bool x.ordered,.string x.label,.string x.text,.slice sA x.spans.length sc,.slice rA x.rows.length rc,.string x.file,.int .i64 x.line] 72)):=HR.out.2.1.alloc (by have:=HR.out.2.2.1;omega) _;obtain⟨W6,hW6⟩:∃W6,wr.alloc (.cells #[.int .u8 (x.kind:Int),.int .i64 (x.level:Int),.bool x.ordered,.string x.label,.string x.text,.slice sA x.spans.length sc,.slice rA x.rows.length rc,.string x.file,.int .i64 x.line] 72)=W6:=⟨_,rfl⟩
     obtain⟨p,hp⟩:∃p,wr.heap.size=p:=⟨_,rfl⟩;rw[hW6] at hXx hch6 hs6 ho hBC hBx;rw[hp] at hXx hs6;obtain⟨ob,hob⟩:∃ob,opensB x=ob:=⟨_,rfl⟩;rw[hob] at ho;obtain⟨tx,htx⟩:∃tx,(⟨(sayL x.spans).toArray⟩:ByteArray)=tx:=⟨_,rfl⟩;rw[htx] at hPl;have hnine:∀W,Below W6.heap.size W6 W→W.cell? ⟨p,0,none⟩=some (.int .u8 (x.kind:Int))∧W.cell? ⟨p,1,none⟩=some (.int .i64 (x.level:Int))∧W.cell? ⟨p,2,none⟩=some (.bool x.ordered)∧W.cell? ⟨p,3,none⟩=some (.string x.label)∧W.cell? ⟨p,4,none⟩=some (.string x.text)∧W.cell? ⟨p,5,none⟩=some (.slice sA x.spans.length sc)∧W.cell? ⟨p,6,none⟩=some (.slice rA x.rows.length rc)∧W.cell? ⟨p,7,none⟩=some (.string x.file)∧W.cell? ⟨p,8,none⟩=some (.int .i64 x.line):=fun W hW=>by
      have h:=hXx.below hW (by omega);have a0:=h.cell 0;have a1:=h.cell 1;have a2:=h.cell 2;have a3:=h.cell 3;have a4:=h.cell 4;have a5:=h.cell 5;have a6:=h.cell 6;have a7:=h.cell 7;have a8:=h.cell 8;simp at a0 a1 a2 a3 a4 a5 a6 a7 a8;exact⟨a0,a1,a2,a3,a4,a5,a6,a7,a8⟩
     obtain⟨q0,q1,q2,q3,q4,q5,q6,q7,q8⟩:=hnine W6 (Below.refl _ _);have HP:=hidH8 hPl ho hnine htx htk hob hBx hs6;have H6:=hidH2 hch6 hBC;have HW6:=hidH2 hW6 hp;clear hbw hfo hbl hPl htk hBx hXx hch6 hs6 ho hBC hob htx hnine hx
     by_cases hk0:k=0
     ·subst hk0;simp only[Nat.zero_mul,Nat.zero_add] at c0 c1 c2 c3 c4 c5 c6 c7 c8
      go_wp2_with fail
      (try rw[HW6.out.1])
      go_roundg (gk-1)
      case measure=>omega
      case rel =>
       refine⟨1,A9,c9,n9,by omega,by go_num,by omega,Lib.hid ?_⟩;have e:(bs.take 1).tail=(bs.take 0).tail:=by
        have h:=HP.out.2.2.2.2.1;rw[List.take_zero,List.nil_append] at h;rw[show (1:Nat)=0+1 from rfl,h];rfl
       rw[e];exact⟨H6.out.1,H6.out.2,by have:=HP.out.2.2.2.2.2.2.2;have:=HR.out.2.2.1;have:=HW6.out.2;omega,HR.out.2.2.2⟩
     ·have hki:(0:Int)<(k:Int):=by omega
      have htl:(bs.take (k+1)).tail=(bs.take k).tail++[x]:=by
       rw[HP.out.2.2.2.2.1];have hne:bs.take k≠[]:=fun e=>by have h:=congrArg List.length e;rw[List.length_take,H2.out.2.2.2.2.2.2.1] at h;simp at h;omega
       exact List.tail_append_of_ne_nil hne
      have HTL:=Lib.hid htl;clear htl;cases ob
      ·go_wp2_with (go_at_call 38;refine HP.out.2.1.mono ?_;rintro e w8 ⟨rfl,hb8⟩)
       go_roundg (gk-1)
       case measure=>omega
       case rel =>
        refine⟨k+1,A9,c9,n9,by omega,by go_num,by omega,Lib.hid ?_⟩;have e:againD (bs.take (k+1)).tail=againD (bs.take k).tail:=by
         rw[HTL.out,againD_snoc,HP.out.2.2.2.2.2.1,if_neg (by decide),List.append_nil]
        rw[e];exact⟨H6.out.1.below hb8,H6.out.2.trans (hb8.mono (by have:=HP.out.2.2.2.2.2.2.2;have:=HR.out.2.2.1;have:=HW6.out.2;omega)),by have:=HP.out.2.2.2.2.2.2.2;have:=HR.out.2.2.1;have:=HW6.out.2;have:=hb8.size;omega,HR.out.2.2.2⟩
      ·go_wp2_with (go_at_call 38;refine HP.out.2.1.mono ?_;rintro e w8 ⟨rfl,hb8⟩)
       obtain⟨ds2,hds2⟩:∃ds2,ds1++againD (bs.take k).tail=ds2:=⟨_,rfl⟩;have hn8:=HP.out.2.2.1 w8 hb8;have d5:=hn8.2.2.2.2.2.1;have d7:=hn8.2.2.2.2.2.2.2.1;have d8:=hn8.2.2.2.2.2.2.2.2;have hch8:=H6.out.1.below hb8;rw[hds2] at hch8;have hc2:=hch8.hold.cell 2;simp at hc2;have hs8:p+1≤w8.heap.size:=by have:=HP.out.2.2.2.2.2.2.2;have:=hb8.size;omega
       have hpC:C+1≤p:=by have:=HR.out.2.2.1;have:=HW6.out.2;omega
       have hb68:Below wr.heap.size wr w8:=HP.out.2.2.2.2.2.2.1.trans (hb8.mono HP.out.2.2.2.2.2.2.1.size);have hlen:ds2.length=n9:=by rw[←hds2];exact HR.out.2.2.2
       have hBC8:Below C W2 w8:=H6.out.2.trans (hb8.mono (by have:=HP.out.2.2.2.2.2.2.2;omega));have H8:=hidH5 hch8 hb68 hlen hds2 hBC8;have hnp:(Value.slice A9 n9 c9).ownBlock≠some p:=fun e=>by have h1:=(own_lt HR.out.1.d e).2;have h2:=HW6.out.2;omega
       have HNP:=Lib.hid hnp;clear hnp hn8 hch8 hb68 hlen hds2 hBC8 hb8 q0 q1 q2 q3 q4 q5 q6 q7 q8 c0 c1 c2 c3 c4 c5 c6 c7 c8 hW6
       go_upto_region 12 with fail
       refine wp_region_held_drew (S:=(fun w'=>w'.cell? ⟨p,7,none⟩=some (.string x.file)∧w'.cell? ⟨p,8,none⟩=some (.int .i64 x.line)∧w'.cell? ⟨p,5,none⟩=some (.slice sA x.spans.length sc))) (by kernel_rfl) ?_ (fun hHeld0=>?_)
       ·(try dsimp only)
        first|exact⟨d7,d8,d5⟩|exact D9|exact E9|exact G9|exact K9
       refine tkH 0 78 ?_;refine tkH 2 80 ?_;refine tkH 3 81 ?_;refine tkH 4 82 ?_;refine tkH 5 83 ?_;refine tkH 6 84 ?_;refine tkH 7 85 ?_;refine rdyH [1,8] ?_;refine AllReadyH.cons (o:=⟨some 79,_,_,_,_,_⟩) rfl (fun K hK=>?_) ?_
       ·skip
        go_simp;refine hK.out _ _ ?_ (fun hHeld1=>?_)
        ·(try dsimp only)
         first|exact⟨d7,d8,d5⟩|exact D9|exact E9|exact G9|exact K9
        clear hK K hHeld0
        (try go_frame)
        refine rdyH [8] ?_;refine AllReadyH.cons (o:=⟨some 86,_,_,_,_,_⟩) rfl (fun K hK=>?_) AllReadyH.nil;go_simp;refine (HP.out.1 _ (H8.out.2.1.trans (((Below.refl w8.heap.size w8).drew).mono H8.out.2.1.size))).mono ?_;rintro e w9 ⟨rfl,hb9⟩;have hb89:Below w8.heap.size w8 w9:=((Below.refl w8.heap.size w8).drew).trans hb9;have D9:w9.cell? ⟨p,7,none⟩=some (.string x.file)∧w9.cell? ⟨p,8,none⟩=some (.int .i64 x.line)∧w9.cell? ⟨p,5,none⟩=some (.slice sA x.spans.length sc):=⟨(hb89.cell (p:=⟨p,7,none⟩) hs8).trans d7,(hb89.cell (p:=⟨p,8,none⟩) hs8).trans d8,(hb89.cell (p:=⟨p,5,none⟩) hs8).trans d5⟩;have hch9:=H8.out.1.below hb89;have e92:=hch9.hold.cell 2;simp at e92;have hs9:p<w9.heap.size:=Nat.lt_of_lt_of_le hs8 hb89.size;have hCl:C<w9.heap.size:=by omega
        have E9:(w9.alloc (.cells #[.string x.file,.int .i64 x.line,.int .i64 13,.string tx] 55)).cell? ⟨p,7,none⟩=some (.string x.file)∧(w9.alloc (.cells #[.string x.file,.int .i64 x.line,.int .i64 13,.string tx] 55)).cell? ⟨p,8,none⟩=some (.int .i64 x.line)∧(w9.alloc (.cells #[.string x.file,.int .i64 x.line,.int .i64 13,.string tx] 55)).cell? ⟨p,5,none⟩=some (.slice sA x.spans.length sc) :=
         ⟨by rw[World.cell?_alloc_lt _ _ _ hs9];exact D9.1,by rw[World.cell?_alloc_lt _ _ _ hs9];exact D9.2.1,by rw[World.cell?_alloc_lt _ _ _ hs9];exact D9.2.2⟩
        have e93:(w9.alloc (.cells #[.string x.file,.int .i64 x.line,.int .i64 13,.string tx] 55)).cell? ⟨C,2,none⟩=some (.slice A9 n9 c9):=by rw[World.cell?_alloc_lt _ _ _ hCl];exact e92
        have H9:=hidH2 hch9 (H8.out.2.2.2.2.trans (hb89.mono (by omega)));clear hch9 hb89 hb9;refine hK.out _ _ ?_ (fun hHeld2=>?_)
        ·(try dsimp only)
         first|exact⟨d7,d8,d5⟩|exact D9|exact E9|exact G9|exact K9
        clear hK K hHeld1
        (try go_frame)
        refine tkH 9 87 ?_;refine rdyH [10] ?_;refine AllReadyH.cons (o:=⟨some 88,_,_,_,_,_⟩) rfl (fun K hK=>?_) AllReadyH.nil;go_simp;refine hK.out _ _ ?_ (fun hHeld3=>?_)
        ·(try dsimp only)
         first|exact⟨d7,d8,d5⟩|exact D9|exact E9|exact G9|exact K9
        clear hK K hHeld2
        (try go_frame)
        refine rdyH [11] ?_;refine AllReadyH.cons (o:=⟨some 89,_,_,_,_,_⟩) rfl (fun K hK=>?_) AllReadyH.nil;have hrow:w9.ownsRow (C+1) 55 4 (.slice A9 n9 c9) n9 (rowD ds2):=by have h:=H9.out.1.d;rw[H8.out.2.2.1] at h;exact h
        refine step_append_lies _ (by rfl) _ _ _ (by rfl) (C+1) 55 i0 _ 4 48 dgs_under HI.out.1 HI.out.2.1 HI.out.2.2.1 HI.out.2.2.2 rfl (by omega) (.slice A9 n9 c9) n9 (rowD ds2) (by rfl) (hrow.alloc _)
         ⟨w9.heap.size,0,none⟩ 1 1 [.string x.file,.int .i64 x.line,.int .i64 13,.string tx] (by rfl) (by rfl) (World.news_of_block (cs:=#[.string x.file,.int .i64 x.line,.int .i64 13,.string tx]) (t:=55) (fr:=(0,0)) (heap_alloc_new w9 _)) (by simp[Value.oneCell'])
         (by omega) (by unfold maxLen;omega) (by omega) (by simp;omega) (w9.heap.size+1) (by simp) ?_
        intro g2 cap w10 ho10 hg10 hat10 hl10;have hC10:Chg w9 w10 (fun k=>(Value.slice A9 n9 c9).ownBlock=some k):=((Chg.refl w9 _).alloc _).trans (Chg.grown hg10) (fun _ _ h=>h.symm);have hpr:(Value.slice A9 n9 c9).ownBlock≠some C:=fun e=>by have h1:=(own_lt hrow e).1;omega
        have hh10:=hC10.holds hpr H9.out.1.hold;have k10:=hh10.cell 2;have f10:=hh10.free 2;simp at k10;have G9:w10.cell? ⟨p,7,none⟩=some (.string x.file)∧w10.cell? ⟨p,8,none⟩=some (.int .i64 x.line)∧w10.cell? ⟨p,5,none⟩=some (.slice sA x.spans.length sc):=⟨hC10.cell (p:=⟨p,7,none⟩) HNP.out D9.1,hC10.cell (p:=⟨p,8,none⟩) HNP.out D9.2.1,hC10.cell (p:=⟨p,5,none⟩) HNP.out D9.2.2⟩;have hCp:C≠p:=by omega
        have K9:(w10.setCell ⟨C,2,none⟩ (.slice (some ⟨g2,0,none⟩) (n9+1) cap)).cell? ⟨p,7,none⟩=some (.string x.file)∧(w10.setCell ⟨C,2,none⟩ (.slice (some ⟨g2,0,none⟩) (n9+1) cap)).cell? ⟨p,8,none⟩=some (.int .i64 x.line)∧(w10.setCell ⟨C,2,none⟩ (.slice (some ⟨g2,0,none⟩) (n9+1) cap)).cell? ⟨p,5,none⟩=some (.slice sA x.spans.length sc) :=
         ⟨cell_far (g:=C) (i:=2) (j:=7) hCp _ G9.1,cell_far (g:=C) (i:=2) (j:=8) hCp _ G9.2.1,cell_far (g:=C) (i:=2) (j:=5) hCp _ G9.2.2⟩
        have H10:=hidH4 hC10 ho10 hat10 hl10;clear hC10 ho10 hat10 hg10 hl10 hh10 hrow hpr hCp;refine hK.out _ _ ?_ (fun hHeld4=>?_)
        ·(try dsimp only)
         first|exact⟨d7,d8,d5⟩|exact D9|exact E9|exact G9|exact K9
        clear hK K hHeld3
        (try go_frame)
        refine tkH 12 90 ?_;refine rdyH [13] ?_;refine AllReadyH.cons rfl (fun K hK=>?_) AllReadyH.nil;go_simp;refine hK.out _ _ ?_ (fun hHeld5=>?_)
        ·(try dsimp only)
         first|exact⟨d7,d8,d5⟩|exact D9|exact E9|exact G9|exact K9
        clear hK K hHeld4
        (try go_frame)
        refine wpAnyH_done (by kernel_rfl) ?_ _
        go_wp2_with fail
        go_roundg (gk-1)
        case measure=>omega
        case rel =>
         have hsd:=ChR.set_d (D':=.slice (some ⟨g2,0,none⟩) (n9+1) cap) (ds':=ds2++[⟨x.file,x.line,13,tx⟩]) H9.out.1 H10.out.1 (by
          rw[rowD_snoc,List.length_append,List.length_singleton,H8.out.2.2.1];exact H10.out.2.1) (fun k hk=>by
          have e1:g2=k:=by simpa [Value.ownBlock] using hk
          rw[←e1]
          rcases H10.out.2.2.1 with h|h
          ·exact .inl h
          ·exact .inr (by omega))
         have e:ds1++againD (bs.take (k+1)).tail=ds2++[⟨x.file,x.line,13,tx⟩]:=by
          rw[HTL.out,againD_snoc,HP.out.2.2.2.2.2.1]
          first|rw[if_pos rfl]|rw[if_pos trivial]
          rw[←List.append_assoc,H8.out.2.2.2.1,←HP.out.2.2.2.1];rfl
         refine⟨k+1,some ⟨g2,0,none⟩,cap,n9+1,by omega,by go_num,by omega,Lib.hid ?_⟩;rw[e];refine⟨hsd.1,H9.out.2.trans hsd.2,Nat.le_trans (by omega) hsd.2.size,?_⟩;rw[List.length_append,List.length_singleton,H8.out.2.2.1]
       refine AllReadyH.cons (o:=⟨some 86,_,_,_,_,_⟩) rfl (fun K hK=>?_) AllReadyH.nil;go_simp;refine (HP.out.1 _ (H8.out.2.1.trans (((Below.refl w8.heap.size w8).drew).mono H8.out.2.1.size))).mono ?_;rintro e w9 ⟨rfl,hb9⟩;have hb89:Below w8.heap.size w8 w9:=((Below.refl w8.heap.size w8).drew).trans hb9;have D9:w9.cell? ⟨p,7,none⟩=some (.string x.file)∧w9.cell? ⟨p,8,none⟩=some (.int .i64 x.line)∧w9.cell? ⟨p,5,none⟩=some (.slice sA x.spans.length sc):=⟨(hb89.cell (p:=⟨p,7,none⟩) hs8).trans d7,(hb89.cell (p:=⟨p,8,none⟩) hs8).trans d8,(hb89.cell (p:=⟨p,5,none⟩) hs8).trans d5⟩;have hch9:=H8.out.1.below hb89;have e92:=hch9.hold.cell 2;simp at e92;have hs9:p<w9.heap.size:=Nat.lt_of_lt_of_le hs8 hb89.size;have hCl:C<w9.heap.size:=by omega
       have E9:(w9.alloc (.cells #[.string x.file,.int .i64 x.line,.int .i64 13,.string tx] 55)).cell? ⟨p,7,none⟩=some (.string x.file)∧(w9.alloc (.cells #[.string x.file,.int .i64 x.line,.int .i64 13,.string tx] 55)).cell? ⟨p,8,none⟩=some (.int .i64 x.line)∧(w9.alloc (.cells #[.string x.file,.int .i64 x.line,.int .i64 13,.string tx] 55)).cell? ⟨p,5,none⟩=some (.slice sA x.spans.length sc) :=
        ⟨by rw[World.cell?_alloc_lt _ _ _ hs9];exact D9.1,by rw[World.cell?_alloc_lt _ _ _ hs9];exact D9.2.1,by rw[World.cell?_alloc_lt _ _ _ hs9];exact D9.2.2⟩
       have e93:(w9.alloc (.cells #[.string x.file,.int .i64 x.line,.int .i64 13,.string tx] 55)).cell? ⟨C,2,none⟩=some (.slice A9 n9 c9):=by rw[World.cell?_alloc_lt _ _ _ hCl];exact e92
       have H9:=hidH2 hch9 (H8.out.2.2.2.2.trans (hb89.mono (by omega)));clear hch9 hb89 hb9;refine hK.out _ _ ?_ (fun hHeld1=>?_)
       ·(try dsimp only)
        first|exact⟨d7,d8,d5⟩|exact D9|exact E9|exact G9|exact K9
       clear hK K hHeld0
       (try go_frame)
       refine tkH 9 87 ?_;refine rdyH [1,10] ?_;refine AllReadyH.cons (o:=⟨some 79,_,_,_,_,_⟩) rfl (fun K hK=>?_) ?_
       ·skip
        go_simp;refine hK.out _ _ ?_ (fun hHeld2=>?_)
        ·(try dsimp only)
         first|exact⟨d7,d8,d5⟩|exact D9|exact E9|exact G9|exact K9
        clear hK K hHeld1
        (try go_frame)
        refine rdyH [10] ?_;refine AllReadyH.cons (o:=⟨some 88,_,_,_,_,_⟩) rfl (fun K hK=>?_) AllReadyH.nil;go_simp;refine hK.out _ _ ?_ (fun hHeld3=>?_)
        ·(try dsimp only)
         first|exact⟨d7,d8,d5⟩|exact D9|exact E9|exact G9|exact K9
        clear hK K hHeld2
        (try go_frame)
        refine rdyH [11] ?_;refine AllReadyH.cons (o:=⟨some 89,_,_,_,_,_⟩) rfl (fun K hK=>?_) AllReadyH.nil;have hrow:w9.ownsRow (C+1) 55 4 (.slice A9 n9 c9) n9 (rowD ds2):=by have h:=H9.out.1.d;rw[H8.out.2.2.1] at h;exact h
        refine step_append_lies _ (by rfl) _ _ _ (by rfl) (C+1) 55 i0 _ 4 48 dgs_under HI.out.1 HI.out.2.1 HI.out.2.2.1 HI.out.2.2.2 rfl (by omega) (.slice A9 n9 c9) n9 (rowD ds2) (by rfl) (hrow.alloc _)
         ⟨w9.heap.size,0,none⟩ 1 1 [.string x.file,.int .i64 x.line,.int .i64 13,.string tx] (by rfl) (by rfl) (World.news_of_block (cs:=#[.string x.file,.int .i64 x.line,.int .i64 13,.string tx]) (t:=55) (fr:=(0,0)) (heap_alloc_new w9 _)) (by simp[Value.oneCell'])
         (by omega) (by unfold maxLen;omega) (by omega) (by simp;omega) (w9.heap.size+1) (by simp) ?_
        intro g2 cap w10 ho10 hg10 hat10 hl10;have hC10:Chg w9 w10 (fun k=>(Value.slice A9 n9 c9).ownBlock=some k):=((Chg.refl w9 _).alloc _).trans (Chg.grown hg10) (fun _ _ h=>h.symm);have hpr:(Value.slice A9 n9 c9).ownBlock≠some C:=fun e=>by have h1:=(own_lt hrow e).1;omega
        have hh10:=hC10.holds hpr H9.out.1.hold;have k10:=hh10.cell 2;have f10:=hh10.free 2;simp at k10;have G9:w10.cell? ⟨p,7,none⟩=some (.string x.file)∧w10.cell? ⟨p,8,none⟩=some (.int .i64 x.line)∧w10.cell? ⟨p,5,none⟩=some (.slice sA x.spans.length sc):=⟨hC10.cell (p:=⟨p,7,none⟩) HNP.out D9.1,hC10.cell (p:=⟨p,8,none⟩) HNP.out D9.2.1,hC10.cell (p:=⟨p,5,none⟩) HNP.out D9.2.2⟩;have hCp:C≠p:=by omega
        have K9:(w10.setCell ⟨C,2,none⟩ (.slice (some ⟨g2,0,none⟩) (n9+1) cap)).cell? ⟨p,7,none⟩=some (.string x.file)∧(w10.setCell ⟨C,2,none⟩ (.slice (some ⟨g2,0,none⟩) (n9+1) cap)).cell? ⟨p,8,none⟩=some (.int .i64 x.line)∧(w10.setCell ⟨C,2,none⟩ (.slice (some ⟨g2,0,none⟩) (n9+1) cap)).cell? ⟨p,5,none⟩=some (.slice sA x.spans.length sc) :=
         ⟨cell_far (g:=C) (i:=2) (j:=7) hCp _ G9.1,cell_far (g:=C) (i:=2) (j:=8) hCp _ G9.2.1,cell_far (g:=C) (i:=2) (j:=5) hCp _ G9.2.2⟩
        have H10:=hidH4 hC10 ho10 hat10 hl10;clear hC10 ho10 hat10 hg10 hl10 hh10 hrow hpr hCp;refine hK.out _ _ ?_ (fun hHeld4=>?_)
        ·(try dsimp only)
         first|exact⟨d7,d8,d5⟩|exact D9|exact E9|exact G9|exact K9
        clear hK K hHeld3
        (try go_frame)
        refine tkH 12 90 ?_;refine rdyH [13] ?_;refine AllReadyH.cons rfl (fun K hK=>?_) AllReadyH.nil;go_simp;refine hK.out _ _ ?_ (fun hHeld5=>?_)
        ·(try dsimp only)
         first|exact⟨d7,d8,d5⟩|exact D9|exact E9|exact G9|exact K9
        clear hK K hHeld4
        (try go_frame)
        refine wpAnyH_done (by kernel_rfl) ?_ _
        go_wp2_with fail
        go_roundg (gk-1)
        case measure=>omega
        case rel =>
         have hsd:=ChR.set_d (D':=.slice (some ⟨g2,0,none⟩) (n9+1) cap) (ds':=ds2++[⟨x.file,x.line,13,tx⟩]) H9.out.1 H10.out.1 (by
          rw[rowD_snoc,List.length_append,List.length_singleton,H8.out.2.2.1];exact H10.out.2.1) (fun k hk=>by
          have e1:g2=k:=by simpa [Value.ownBlock] using hk
          rw[←e1]
          rcases H10.out.2.2.1 with h|h
          ·exact .inl h
          ·exact .inr (by omega))
         have e:ds1++againD (bs.take (k+1)).tail=ds2++[⟨x.file,x.line,13,tx⟩]:=by
          rw[HTL.out,againD_snoc,HP.out.2.2.2.2.2.1]
          first|rw[if_pos rfl]|rw[if_pos trivial]
          rw[←List.append_assoc,H8.out.2.2.2.1,←HP.out.2.2.2.1];rfl
         refine⟨k+1,some ⟨g2,0,none⟩,cap,n9+1,by omega,by go_num,by omega,Lib.hid ?_⟩;rw[e];refine⟨hsd.1,H9.out.2.trans hsd.2,Nat.le_trans (by omega) hsd.2.size,?_⟩;rw[List.length_append,List.length_singleton,H8.out.2.2.1]
       refine AllReadyH.cons (o:=⟨some 88,_,_,_,_,_⟩) rfl (fun K hK=>?_) AllReadyH.nil;go_simp;refine hK.out _ _ ?_ (fun hHeld2=>?_)
       ·(try dsimp only)
        first|exact⟨d7,d8,d5⟩|exact D9|exact E9|exact G9|exact K9
       clear hK K hHeld1
       (try go_frame)
       refine rdyH [1] ?_;refine AllReadyH.cons (o:=⟨some 79,_,_,_,_,_⟩) rfl (fun K hK=>?_) AllReadyH.nil;go_simp;refine hK.out _ _ ?_ (fun hHeld3=>?_)
       ·(try dsimp only)
        first|exact⟨d7,d8,d5⟩|exact D9|exact E9|exact G9|exact K9
       clear hK K hHeld2
       (try go_frame)
       refine rdyH [11] ?_;refine AllReadyH.cons (o:=⟨some 89,_,_,_,_,_⟩) rfl (fun K hK=>?_) AllReadyH.nil;have hrow:w9.ownsRow (C+1) 55 4 (.slice A9 n9 c9) n9 (rowD ds2):=by have h:=H9.out.1.d;rw[H8.out.2.2.1] at h;exact h
       refine step_append_lies _ (by rfl) _ _ _ (by rfl) (C+1) 55 i0 _ 4 48 dgs_under HI.out.1 HI.out.2.1 HI.out.2.2.1 HI.out.2.2.2 rfl (by omega) (.slice A9 n9 c9) n9 (rowD ds2) (by rfl) (hrow.alloc _)
        ⟨w9.heap.size,0,none⟩ 1 1 [.string x.file,.int .i64 x.line,.int .i64 13,.string tx] (by rfl) (by rfl) (World.news_of_block (cs:=#[.string x.file,.int .i64 x.line,.int .i64 13,.string tx]) (t:=55) (fr:=(0,0)) (heap_alloc_new w9 _)) (by simp[Value.oneCell'])
        (by omega) (by unfold maxLen;omega) (by omega) (by simp;omega) (w9.heap.size+1) (by simp) ?_
       intro g2 cap w10 ho10 hg10 hat10 hl10;have hC10:Chg w9 w10 (fun k=>(Value.slice A9 n9 c9).ownBlock=some k):=((Chg.refl w9 _).alloc _).trans (Chg.grown hg10) (fun _ _ h=>h.symm);have hpr:(Value.slice A9 n9 c9).ownBlock≠some C:=fun e=>by have h1:=(own_lt hrow e).1;omega
       have hh10:=hC10.holds hpr H9.out.1.hold;have k10:=hh10.cell 2;have f10:=hh10.free 2;simp at k10;have G9:w10.cell? ⟨p,7,none⟩=some (.string x.file)∧w10.cell? ⟨p,8,none⟩=some (.int .i64 x.line)∧w10.cell? ⟨p,5,none⟩=some (.slice sA x.spans.length sc):=⟨hC10.cell (p:=⟨p,7,none⟩) HNP.out D9.1,hC10.cell (p:=⟨p,8,none⟩) HNP.out D9.2.1,hC10.cell (p:=⟨p,5,none⟩) HNP.out D9.2.2⟩;have hCp:C≠p:=by omega
       have K9:(w10.setCell ⟨C,2,none⟩ (.slice (some ⟨g2,0,none⟩) (n9+1) cap)).cell? ⟨p,7,none⟩=some (.string x.file)∧(w10.setCell ⟨C,2,none⟩ (.slice (some ⟨g2,0,none⟩) (n9+1) cap)).cell? ⟨p,8,none⟩=some (.int .i64 x.line)∧(w10.setCell ⟨C,2,none⟩ (.slice (some ⟨g2,0,none⟩) (n9+1) cap)).cell? ⟨p,5,none⟩=some (.slice sA x.spans.length sc) :=
        ⟨cell_far (g:=C) (i:=2) (j:=7) hCp _ G9.1,cell_far (g:=C) (i:=2) (j:=8) hCp _ G9.2.1,cell_far (g:=C) (i:=2) (j:=5) hCp _ G9.2.2⟩
       have H10:=hidH4 hC10 ho10 hat10 hl10;clear hC10 ho10 hat10 hg10 hl10 hh10 hrow hpr hCp;refine hK.out _ _ ?_ (fun hHeld4=>?_)
       ·(try dsimp only)
        first|exact⟨d7,d8,d5⟩|exact D9|exact E9|exact G9|exact K9
       clear hK K hHeld3
       (try go_frame)
       refine tkH 12 90 ?_;refine rdyH [13] ?_;refine AllReadyH.cons rfl (fun K hK=>?_) AllReadyH.nil;go_simp;refine hK.out _ _ ?_ (fun hHeld5=>?_)
       ·(try dsimp only)
        first|exact⟨d7,d8,d5⟩|exact D9|exact E9|exact G9|exact K9
       clear hK K hHeld4
       (try go_frame)
       refine wpAnyH_done (by kernel_rfl) ?_ _
       go_wp2_with fail
       go_roundg (gk-1)
       case measure=>omega
       case rel =>
        have hsd:=ChR.set_d (D':=.slice (some ⟨g2,0,none⟩) (n9+1) cap) (ds':=ds2++[⟨x.file,x.line,13,tx⟩]) H9.out.1 H10.out.1 (by
         rw[rowD_snoc,List.length_append,List.length_singleton,H8.out.2.2.1];exact H10.out.2.1) (fun k hk=>by
         have e1:g2=k:=by simpa [Value.ownBlock] using hk
         rw[←e1]
         rcases H10.out.2.2.1 with h|h
         ·exact .inl h
         ·exact .inr (by omega))
        have e:ds1++againD (bs.take (k+1)).tail=ds2++[⟨x.file,x.line,13,tx⟩]:=by
         rw[HTL.out,againD_snoc,HP.out.2.2.2.2.2.1]
         first|rw[if_pos rfl]|rw[if_pos trivial]
         rw[←List.append_assoc,H8.out.2.2.2.1,←HP.out.2.2.2.1];rfl
        refine⟨k+1,some ⟨g2,0,none⟩,cap,n9+1,by omega,by go_num,by omega,Lib.hid ?_⟩;rw[e];refine⟨hsd.1,H9.out.2.trans hsd.2,Nat.le_trans (by omega) hsd.2.size,?_⟩;rw[List.length_append,List.length_singleton,H8.out.2.2.1]
    ·obtain rfl:k=nb:=by omega
     obtain⟨wO,hwO⟩:∃x,x=wr:=⟨_,rfl⟩;subst hwO;have hC2:=H2.out.2.2.2.2.2.2.2.2.2;have hbO:Below W2.heap.size W2 wO:=by rw[hC2];exact HR.out.2.1
     have hbwO:Below w.heap.size w wO:=H2.out.2.2.2.1.trans (hbO.mono H2.out.2.2.2.1.size);have hatO:AtS wO T av attrs:=TwoS.below HH.out.2.1 hbwO;have hAl:=allowed_any hatO (fun k hk=>Nat.lt_of_lt_of_le (HH.out.2.2.1 k hk) hbwO.size) han HH.out.2.2.2.2.1;obtain⟨dsF,hdsF⟩:∃dsF,ds1++againD bs.tail=dsF:=⟨_,rfl⟩;have hbk:bs.take k=bs:=List.take_of_length_le (by rw[H2.out.2.2.2.2.2.2.1];exact Nat.le_refl _);have hRO:=HR.out;rw[hbk,hdsF] at hRO;obtain⟨ks,hks⟩:∃ks,sortN r.asked=ks:=⟨_,rfl⟩;have hkrow:W2.ownsRow 0 tTx 1 (.slice Ak nk ck) nk (rowTx ks):=by
      have h:=(Chg.below H2.out.2.2.2.2.2.2.2.2.1 (fun _=>False)).owns H1.out.2.2.2.1 (fun _ _ h=>h);rw[←hks];exact own_up h (fun k _=>Nat.zero_le k)
     have hkl:ks.length=nk:=by rw[←hks];exact HN.out.2.2.2
     have hkc:∀W,Below W2.heap.size W2 W→∀(i:Nat) n,ks[i]? = some n→∃g,Ak=some ⟨g,0,none⟩∧W.cell? ⟨g,i,none⟩=some (.string n):=fun W hW i n hn=>by
      have h:=(Chg.below hW (fun _=>False)).owns hkrow (fun _ _ h=>h);obtain⟨g,cap,e,_,_,_,h2,_⟩:=own_rowN h (by have:=(List.getElem?_eq_some_iff.1 hn).1;omega);injection e with e1 _ _
      exact⟨g,e1,h2 i (.string n) (by unfold rowTx;rw[List.getElem?_map,hn];rfl)⟩
     obtain⟨cb2,hcb2⟩:∃cb2,checkB attrs=cb2:=⟨_,rfl⟩;obtain⟨av2,hav2⟩:∃av2,(if checkB attrs then av else .slice none 0 0)=av2:=⟨_,rfl⟩;obtain⟨a2,ha2⟩:∃a2,(firstA attrs).attrs=a2:=⟨_,rfl⟩;have hat2:∀W,Below w.heap.size w W→AtS W T av2 a2:=fun W hW=>by
      rw[←hav2,←ha2];unfold firstA;dsimp only;split
      ·exact TwoS.below HH.out.2.1 hW
      ·exact TwoS.nil _ _
     have ha2l:a2.length≤1000000000:=by
      rw[←ha2];unfold firstA;dsimp only;split
      ·exact han
      ·exact Nat.zero_le _
     rw[hav2] at hAl;have HO:=hidH11 hAl hRO hbO hbwO hkc hkl hat2 ha2 hks hdsF hC2;clear hAl hRO hbO hbwO hkc hkl hat2 ha2 hks hdsF hC2 hatO hbk hkrow hav2 hcb2 hk hlt
     go_wp2_with fail
     refine HO.out.1.mono ?_;rintro e w8 ⟨rfl,hb8⟩;have h8:ChR w8 C name (.slice Ab k cb) (.slice Af nf cf) (.slice A9 n9 c9) (.slice none 0 0) (.slice none 0 0) dsF [] []∧Below C W2 w8∧C+1≤w8.heap.size:=⟨HO.out.2.1.1.below hb8,HO.out.2.1.2.1.trans (hb8.mono (by have:=HO.out.2.1.2.2.1;omega)),Nat.le_trans HO.out.2.1.2.2.1 hb8.size⟩;have H8:=Lib.hid h8;clear h8 hb8
     go_wp2_with fail
     go_loopg [96] nk (fun q i wr=>∃(j:Nat) (A10 A11:Option Addr) (c10 n10 c11 n11:Nat),j+q=nk∧i=.int .i64 (j:Int)∧n10≤j∧n11≤j∧Hid (ChR wr C name (.slice Ab k cb) (.slice Af nf cf) (.slice A9 n9 c9) (.slice A10 n10 c10) (.slice A11 n11 c11) dsF (gotA a2 (ks.take j)) (lackA a2 (ks.take j))∧Below C W2 wr∧C+1≤wr.heap.size∧(gotA a2 (ks.take j)).length=n10∧(lackA a2 (ks.take j)).length=n11))
     case atStart=>exact⟨0,none,none,0,0,0,0,by omega,rfl,Nat.le_refl _,Nat.le_refl _,Lib.hid ⟨H8.out.1,H8.out.2.1,H8.out.2.2,rfl,rfl⟩⟩
     case round =>
      obtain⟨j,A10,A11,c10,n10,c11,n11,hj,rfl,hn10,hn11,HL⟩:=hrel;have hbr:Below W2.heap.size W2 wr:=by rw[HO.out.2.2.2.2.2.2.2.2.2.2];exact HL.out.2.1
      by_cases hjt:j<nk
      ·obtain⟨nm,hnm⟩:∃nm,ks[j]? = some nm:=⟨_,List.getElem?_eq_getElem (by have:=HO.out.2.2.2.2.2.1;omega)⟩;obtain⟨g,hAk,c0⟩:=HO.out.2.2.2.2.1 wr hbr j nm hnm;subst hAk;have hbwr:Below w.heap.size w wr:=H2.out.2.2.2.1.trans (hbr.mono H2.out.2.2.2.1.size);have hG:=Get_any (HO.out.2.2.2.2.2.2.1 wr hbwr) (fun k hk=>Nat.lt_of_lt_of_le (HH.out.2.2.1 k hk) hbwr.size) ha2l nm;have htk:ks.take (j+1)=ks.take j++[nm]:=by rw[List.take_add_one,hnm];rfl
       obtain⟨i1,hi1,hy0,hy1,hy2⟩:=info_parts atA_info;obtain⟨i2,hi2,hx0,hx1,hx2⟩:=info_parts txA_info;have HI1:=hidH4 hi1 hy0 hy1 hy2;have HI2:=hidH4 hi2 hx0 hx1 hx2;have HJ:=hidH2 hbwr htk;clear hi1 hy0 hy1 hy2 hi2 hx0 hx1 hx2 hbwr htk hnm;cases hga:getA a2 nm with
       | some v =>
        rw[hga] at hG;unfold getV at hG;have HG:=hidH2 hG hga;clear hG hga
        go_wp2_with fail
        refine HG.out.1.mono ?_;rintro e w9 ⟨rfl,hb9⟩;have hch9:=HL.out.1.below hb9;have hBC9:Below C W2 w9:=HL.out.2.1.trans (hb9.mono (by have:=HL.out.2.2.1;omega));have hs9:C+1≤w9.heap.size:=Nat.le_trans HL.out.2.2.1 hb9.size;have hc4:=hch9.hold.cell 4;simp at hc4;have hCl:C<w9.heap.size:=hs9;have e4:(w9.alloc (.cells #[.string nm,.string v] 47)).cell? ⟨C,4,none⟩=some (.slice A10 n10 c10):=by rw[World.cell?_alloc_lt _ _ _ hCl];exact hc4
        have hA:w9.ownsRow (C+1) 47 2 (.slice A10 n10 c10) n10 (rowAt (gotA a2 (ks.take j))):=by have h:=hch9.a;rw[HL.out.2.2.2.1] at h;exact h
        have H9:=hidH4 hch9 hBC9 hs9 hA;clear hch9 hBC9 hs9 hA hb9
        go_wp2_with (at_builtin;refine wpList_append_lies _ rfl _ _ 25 rfl (C+1) 47 i1 _ 2 32 at_under HI1.out.1 HI1.out.2.1 HI1.out.2.2.1 HI1.out.2.2.2 rfl (by omega) (.slice A10 n10 c10) n10 (rowAt (gotA a2 (ks.take j))) (by rfl) (H9.out.2.2.2.alloc _) ⟨w9.heap.size,0,none⟩ 1 1 [.string nm,.string v] rfl rfl (World.news_of_block (cs:=#[.string nm,.string v]) (t:=47) (fr:=(0,0)) (heap_alloc_new w9 _)) (by simp[Value.oneCell']) (by omega) (by unfold maxLen;omega) (by omega) (by simp;omega) (w9.heap.size+1) (by simp) ?_;intro g2 cap w10 ho10 hg10 hat10 hl10;have hC10:Chg w9 w10 (fun k=>(Value.slice A10 n10 c10).ownBlock=some k):=((Chg.refl w9 _).alloc _).trans (Chg.grown hg10) (fun _ _ h=>h.symm);have hh10:=hC10.holds (fun e=>by have h1:=(own_lt H9.out.2.2.2 e).1;omega) H9.out.1.hold;have k10:=hh10.cell 4;have f10:=hh10.free 4;simp at k10;have H10:=hidH4 hC10 ho10 hat10 hl10;clear hC10 ho10 hat10 hg10 hh10 hl10)
        go_roundg (gk-1)
        case measure=>omega
        case rel =>
         have egot:gotA a2 (ks.take (j+1))=gotA a2 (ks.take j)++[⟨nm,v⟩]:=by rw[HJ.out.2,gotA_snoc,HG.out.2]
         have elack:lackA a2 (ks.take (j+1))=lackA a2 (ks.take j):=by rw[HJ.out.2,lackA_snoc,HG.out.2];exact List.append_nil _
         have hsd:=ChR.set_a (A':=.slice (some ⟨g2,0,none⟩) (n10+1) cap) (ats':=gotA a2 (ks.take j)++[⟨nm,v⟩]) H9.out.1 H10.out.1 (by
          rw[List.length_append,List.length_singleton,HL.out.2.2.2.1];have er:rowAt (gotA a2 (ks.take j)++[⟨nm,v⟩])=rowAt (gotA a2 (ks.take j))++[.string nm,.string v]:=by unfold rowAt;rw[List.flatMap_append];simp[atCells]
          rw[er];exact H10.out.2.1) (fun k hk=>by
          have e1:g2=k:=by simpa [Value.ownBlock] using hk
          rw[←e1]
          rcases H10.out.2.2.1 with h|h
          ·exact .inl h
          ·exact .inr (by omega))
         refine⟨j+1,some ⟨g2,0,none⟩,A11,cap,n10+1,c11,n11,by omega,by go_num,by omega,by omega,Lib.hid ?_⟩;rw[egot,elack];refine⟨hsd.1,H9.out.2.1.trans hsd.2,Nat.le_trans H9.out.2.2.1 hsd.2.size,?_,HL.out.2.2.2.2⟩;rw[List.length_append,List.length_singleton,HL.out.2.2.2.1]
       | none =>
        rw[hga] at hG;unfold getV at hG;have HG:=hidH2 hG hga;clear hG hga
        go_wp2_with fail
        refine HG.out.1.mono ?_;rintro e w9 ⟨rfl,hb9⟩;have hch9:=HL.out.1.below hb9;have hBC9:Below C W2 w9:=HL.out.2.1.trans (hb9.mono (by have:=HL.out.2.2.1;omega));have hs9:C+1≤w9.heap.size:=Nat.le_trans HL.out.2.2.1 hb9.size;have hc5:=hch9.hold.cell 5;simp at hc5;have hCl:C<w9.heap.size:=hs9;have e5:(w9.alloc (.cells #[.string nm] 9)).cell? ⟨C,5,none⟩=some (.slice A11 n11 c11):=by rw[World.cell?_alloc_lt _ _ _ hCl];exact hc5
        have hU:w9.ownsRow (C+1) 9 1 (.slice A11 n11 c11) n11 (rowTx (lackA a2 (ks.take j))):=by have h:=hch9.u;rw[HL.out.2.2.2.2] at h;exact h
        have H9:=hidH4 hch9 hBC9 hs9 hU;clear hch9 hBC9 hs9 hU hb9
        go_wp2_with (at_builtin;refine wpList_append_lies _ rfl _ _ 24 rfl (C+1) 9 i2 _ 1 16 txs_underA HI2.out.1 HI2.out.2.1 HI2.out.2.2.1 HI2.out.2.2.2 rfl (by omega) (.slice A11 n11 c11) n11 (rowTx (lackA a2 (ks.take j))) (by rfl) (H9.out.2.2.2.alloc _) ⟨w9.heap.size,0,none⟩ 1 1 [.string nm] rfl rfl (World.news_of_block (cs:=#[.string nm]) (t:=9) (fr:=(0,0)) (heap_alloc_new w9 _)) (by simp[Value.oneCell']) (by omega) (by unfold maxLen;omega) (by omega) (by simp;omega) (w9.heap.size+1) (by simp) ?_;intro g2 cap w10 ho10 hg10 hat10 hl10;have hC10:Chg w9 w10 (fun k=>(Value.slice A11 n11 c11).ownBlock=some k):=((Chg.refl w9 _).alloc _).trans (Chg.grown hg10) (fun _ _ h=>h.symm);have hh10:=hC10.holds (fun e=>by have h1:=(own_lt H9.out.2.2.2 e).1;omega) H9.out.1.hold;have k10:=hh10.cell 5;have f10:=hh10.free 5;simp at k10;have H10:=hidH4 hC10 ho10 hat10 hl10;clear hC10 ho10 hat10 hg10 hh10 hl10)
        go_roundg (gk-1)
        case measure=>omega
        case rel =>
         have egot:gotA a2 (ks.take (j+1))=gotA a2 (ks.take j):=by rw[HJ.out.2,gotA_snoc,HG.out.2];exact List.append_nil _
         have elack:lackA a2 (ks.take (j+1))=lackA a2 (ks.take j)++[nm]:=by rw[HJ.out.2,lackA_snoc,HG.out.2]
         have hsd:=ChR.set_u (U':=.slice (some ⟨g2,0,none⟩) (n11+1) cap) (us':=lackA a2 (ks.take j)++[nm]) H9.out.1 H10.out.1 (by
          rw[List.length_append,List.length_singleton,HL.out.2.2.2.2];have er:rowTx (lackA a2 (ks.take j)++[nm])=rowTx (lackA a2 (ks.take j))++[.string nm]:=by unfold rowTx;simp
          rw[er];exact H10.out.2.1) (fun k hk=>by
          have e1:g2=k:=by simpa [Value.ownBlock] using hk
          rw[←e1]
          rcases H10.out.2.2.1 with h|h
          ·exact .inl h
          ·exact .inr (by omega))
         refine⟨j+1,A10,some ⟨g2,0,none⟩,c10,n10,cap,n11+1,by omega,by go_num,by omega,by omega,Lib.hid ?_⟩;rw[egot,elack];refine⟨hsd.1,H9.out.2.1.trans hsd.2,Nat.le_trans H9.out.2.2.1 hsd.2.size,HL.out.2.2.2.1,?_⟩;rw[List.length_append,List.length_singleton,HL.out.2.2.2.2]
      ·obtain rfl:j=nk:=by omega
       have b01:=H1.out.2.2.2.2;have b02:=b01.trans (H2.out.2.2.2.2.2.2.2.2.1.mono b01.size);have b0r:=b02.trans (hbr.mono b02.size);have hXq:=HH.out.2.2.2.2.2.2.2.below b0r HH.out.2.2.2.2.2.2.2.lt;rw[HW.out.2] at hXq;have hbwr:Below w.heap.size w wr:=H2.out.2.2.2.1.trans (hbr.mono H2.out.2.2.2.1.size);have hqC:q<C:=by
        have h1:=HH.out.2.2.2.2.2.2.2.lt;have h2:=b02.size;have h3:=HO.out.2.2.2.2.2.2.2.2.2.2;have h4:=HW.out.2;omega
       have a0:=HL.out.1.hold.cell 0;have a1:=HL.out.1.hold.cell 1;have a2':=HL.out.1.hold.cell 2;have a3:=HL.out.1.hold.cell 3;have a4:=HL.out.1.hold.cell 4;have a5:=HL.out.1.hold.cell 5;have d0:=hXq.cell 0;have d1:=hXq.cell 1;have d2:=hXq.cell 2;have d3:=hXq.cell 3;have d4:=hXq.cell 4;have d5:=hXq.cell 5;have f0:=hXq.free 0;have f1:=hXq.free 1;have f2:=hXq.free 2;have f3:=hXq.free 3;have f4:=hXq.free 4;have f5:=hXq.free 5;simp at a0 a1 a2' a3 a4 a5 d0 d1 d2 d3 d4 d5;have HE:=hidH2 hbwr hqC;have h6:=(((((hXq.set 0 (.string name)).set 1 (.slice Ab k cb)).set 2 (.slice A9 n9 c9)).set 3 (.slice Af nf cf)).set 4 (.slice A10 n10 c10)).set 5 (.slice A11 n11 c11);have s6:=(((((Chg.set wr ⟨q,0,none⟩ (.string name)).trans (Chg.set _ ⟨q,1,none⟩ (.slice Ab k cb)) (fun _ _ h=>h)).trans (Chg.set _ ⟨q,2,none⟩ (.slice A9 n9 c9)) (fun _ _ h=>h)).trans (Chg.set _ ⟨q,3,none⟩ (.slice Af nf cf)) (fun _ _ h=>h)).trans (Chg.set _ ⟨q,4,none⟩ (.slice A10 n10 c10)) (fun _ _ h=>h)).trans (Chg.set _ ⟨q,5,none⟩ (.slice A11 n11 c11)) (fun _ _ h=>h);have hq0:q<W0.heap.size:=by have h1:=HH.out.2.2.2.2.2.2.2.lt;have h4:=HW.out.2;omega
       have hq1:q<W1.heap.size:=Nat.lt_of_lt_of_le hq0 b01.size;have hfrow:=(Chg.below (b02.trans (hbr.mono b02.size) |> fun _=>hbr) (fun _=>False)).owns ((Chg.below H2.out.2.2.2.2.2.2.2.2.1 (fun _=>False)).owns H1.out.2.2.1 (fun _ _ h=>h)) (fun _ _ h=>h);have HS:=hidH6 h6 s6 hq0 hq1 hfrow hbr;clear hbwr b01 b02 b0r hXq hbr hj hjt h6 s6 hq0 hq1 hfrow
       go_wp2_with fail
       refine bodyPost_ret (results_cell_row rfl _ _ q _ _ _ _ rfl HS.out.1 Tryz.underlying27 rfl (by kernel_rfl)) rfl ?_;have hcM:chapM src attrs name=⟨name,bs,dsF,r.files,gotA a2 ks,lackA a2 ks⟩:=by
        rw[HH.out.2.2.2.2.2.1];unfold chapR;rw[H2.out.2.2.2.2.1,H2.out.2.2.2.2.2.1,H7.out.2.2.2.2.1,H9.out.2.1,HO.out.2.2.2.2.2.2.2.2.2.1,HO.out.2.2.2.2.2.2.2.1,HO.out.2.2.2.2.2.2.2.2.1]
       have hkt:ks.take j=ks:=List.take_of_length_le (by rw[HO.out.2.2.2.2.2.1];exact Nat.le_refl _);have hLL:=HL.out;rw[hkt] at hLL;have hqC:=HE.out.2;rw[hcM];have hdo:_:=own_up (b':=w.heap.size) hLL.1.d (fun k hk=>by have h1:=(own_lt hLL.1.d hk).1;have h4:=HW.out.2;omega);refine⟨_,rfl,⟨.slice Ab k cb,.slice A9 n9 c9,.slice Af nf cf,.slice A10 n10 c10,.slice A11 n11 c11,rfl,?_,?_,?_,?_,?_⟩,HE.out.1.trans (HS.out.2.1.toBelow HE.out.1.size (fun k hk=>by have h4:=HW.out.2;have e:k=q:=hk;omega)),⟨Ab,k,cb,A9,n9,c9,Af,nf,cf,A10,n10,c10,A11,n11,c11,rfl,HS.out.2.1.owns (by have h:=hdo;rw[HO.out.2.1.2.2.2] at h ⊢;exact h) (fun b hb e=>by have h1:=(own_lt hLL.1.d hb).1;have e:b=q:=e;omega)⟩⟩
       ·exact H2.out.2.1 _ (fun b=>b=q) ((Chg.below HS.out.2.2.2.2.2 (fun b=>b=q)).trans HS.out.2.1 (fun _ _ h=>h)) (fun b hb=>.inl (by rw[hb];exact HS.out.2.2.2.1))
       ·exact DiagsAt.own (HS.out.2.1.owns (by have h:=hLL.1.d;rw[HO.out.2.1.2.2.2] at h ⊢;exact h) (fun b hb e=>by have h1:=(own_lt hLL.1.d hb).1;have e:b=q:=e;omega)) (Nat.le_refl _)
       ·exact TxS.own (HS.out.2.1.owns HS.out.2.2.2.2.1 (fun b hb e=>by have h1:=(own_lt HS.out.2.2.2.2.1 hb).1;have h2:=HS.out.2.2.1;have e:b=q:=e;omega)) HN.out.2.2.1.symm (fun b hb=>Nat.lt_of_lt_of_le (own_lt HS.out.2.2.2.2.1 hb).2 HS.out.2.1.size)
       ·exact AtS.own (HS.out.2.1.owns (by have h:=hLL.1.a;rw[hLL.2.2.2.1] at h;exact h) (fun b hb e=>by have h1:=(own_lt hLL.1.a hb).1;have e:b=q:=e;omega)) hLL.2.2.2.1.symm (fun b hb=>Nat.lt_of_lt_of_le (own_lt hLL.1.a hb).2 HS.out.2.1.size)
       ·exact TxS.own (HS.out.2.1.owns (by have h:=hLL.1.u;rw[hLL.2.2.2.2] at h;exact h) (fun b hb e=>by have h1:=(own_lt hLL.1.u hb).1;have e:b=q:=e;omega)) hLL.2.2.2.2.symm (fun b hb=>Nat.lt_of_lt_of_le (own_lt hLL.1.u hb).2 HS.out.2.1.size)
theorem chapter_any {w:World}{S T:Nat→Prop}{sv av:Value}{src:List Sc}{attrs:List At} (hsc:ScS w S sv src) (hat:AtS w T av attrs) (hS:∀k,S k→k<w.heap.size) (hT:∀k,T k→k<w.heap.size) (hsn:src.length≤1000000000) (han:attrs.length≤1000000000)
  (hz:∀s∈src,s.text.size≤99999) (haz:∀a∈attrs,a.name.size≤100000∧a.value.size≤100000) {m:Int} (hg:Glob m w) (h3:3≤w.heap.size) (name:ByteArray) (hnz:name.size≤100000) (hwt:wtX (readS src attrs name).lines≤100000000) (hkw:∀s∈src,∀t∈linesT s.text,okW t=true) (hkb:okAll (readS src attrs name).lines=true) :
  Calls Tryz.prog 21 #[sv,av,.string name] w fun e w'=>∃cv,e=.returned cv∧ChAt w' w'.heap.size cv (chapM src attrs name)∧Below w.heap.size w w' :=
 (chapter_own hsc hat hS hT hsn han hz haz hg h3 name hnz hwt hkw hkb).mono fun _ _ ⟨cv,h1,h2,h3,_⟩=>⟨cv,h1,h2,h3⟩
theorem BlocksAt.up {w W:World}{B B':Nat}{v:Value}{l:List Bl} (h:BlocksAt w B v l) (hb:Below w.heap.size w W) (hB:B≤w.heap.size) (hB':B≤B'):BlocksAt W B' v l:=by
 obtain⟨A,c,kvs,h1,h2,h3,h4,h5⟩:=h;refine⟨A,c,kvs,h1,h2,h3,fun hne=>?_,fun j x kv hx hk=>?_⟩
 ·obtain⟨b,off,e,hbB,hc⟩:=h4 hne;exact⟨b,off,e,by omega,fun j x kv hx hk i u hu=>(hb.cell (p:=⟨b,off+j*9+i,none⟩) (by show b<_;omega)).trans (hc j x kv hx hk i u hu)⟩
 ·obtain⟨hf,hr⟩:=h5 j x kv hx hk;exact⟨hf.chg (Chg.below hb (fun _=>False)) (fun k hk=>Nat.lt_of_lt_of_le hk hB') (fun _ _ h=>h),RowsF.stays.go hr (Chg.below hb (fun _=>False)) (fun k hk=>Nat.lt_of_lt_of_le hk hB') (fun _ _ h=>h)⟩
theorem DiagsAt.up {w W:World}{B B':Nat}{v:Value}{l:List Dg} (h:DiagsAt w B v l) (hb:Below w.heap.size w W) (hB:B≤w.heap.size) (hB':B≤B'):DiagsAt W B' v l:=by
 obtain⟨A,c,h1,h2,h3⟩:=h;refine⟨A,c,h1,h2,fun hne=>?_⟩;obtain⟨b,off,e,hbB,hc⟩:=h3 hne;exact⟨b,off,e,by omega,fun j x hx i u hu=>(hb.cell (p:=⟨b,off+j*4+i,none⟩) (by show b<_;omega)).trans (hc j x hx i u hu)⟩
theorem TxS.up {w W:World}{B B':Nat}{v:Value}{l:List ByteArray} (h:TxS w (· < B) v l) (hb:Below w.heap.size w W) (hB:B≤w.heap.size) (hB':B≤B'):TxS W (· < B') v l:=by
 obtain⟨A,c,h1,h2,h3⟩:=h;refine⟨A,c,h1,h2,fun j s hj=>?_⟩;obtain⟨b,off,e,hbB,hc⟩:=h3 j s hj;exact⟨b,off,e,by show b<B';have:b<B:=hbB;omega,(hb.cell (p:=⟨b,off+j,none⟩) (by show b<_;have:b<B:=hbB;omega)).trans hc⟩
theorem AtS.up {w W:World}{B B':Nat}{v:Value}{l:List At} (h:AtS w (· < B) v l) (hb:Below w.heap.size w W) (hB:B≤w.heap.size) (hB':B≤B'):AtS W (· < B') v l:=by
 obtain⟨A,c,h1,h2,h3⟩:=h;refine⟨A,c,h1,h2,fun j s hj=>?_⟩;obtain⟨b,off,e,hbB,hc,hd⟩:=h3 j s hj;have hbB:b<B:=hbB;exact⟨b,off,e,by show b<B';omega,(hb.cell (p:=⟨b,off+j*2,none⟩) (by show b<_;omega)).trans hc,(hb.cell (p:=⟨b,off+j*2+1,none⟩) (by show b<_;omega)).trans hd⟩
theorem ChAt.up {w W:World}{B B':Nat}{v:Value}{c:Ch} (h:ChAt w B v c) (hb:Below w.heap.size w W) (hB:B≤w.heap.size) (hB':B≤B'):ChAt W B' v c:=by
 obtain⟨bv,dv,fv,av,uv,e,h1,h2,h3,h4,h5⟩:=h;exact⟨bv,dv,fv,av,uv,e,BlocksAt.up h1 hb hB hB',DiagsAt.up h2 hb hB hB',TxS.up h3 hb hB hB',AtS.up h4 hb hB hB',TxS.up h5 hb hB hB'⟩
end Go.Proofs.YtkdknllcllhpgaaGreatDoor
namespace Go.Bd
open Go.RowKit Go.Proofs.YtkdknllcllhpgaaGreatDoor
def exA:ByteArray:=⟨#[97]⟩
def exB:ByteArray:=⟨#[98]⟩
def exC:ByteArray:=⟨#[99]⟩
def exX:ByteArray:=⟨#[120]⟩
def exS:List Sc:=[⟨exA,⟨#[61,32,79,110,101,10,64,105,110,99,108,117,100,101,32,98,10]⟩⟩,⟨exB,⟨#[123,120,125,10]⟩⟩]
theorem ex_asked:(readS exS [] exA).asked=[exX]:=by decide +kernel
theorem ex_files:(readS exS [] exA).files=[exA,exB]:=by decide +kernel
theorem ex_diags:((readS exS [] exA).diags).length=0:=by decide +kernel
theorem ex_blocks:(blocksOf (readS exS [] exA).lines).length=2:=by decide +kernel
theorem ex_wrong:(diagsOf (readS exS [] exA).lines).length=0:=by decide +kernel
theorem ex_first:firstB (blocksOf (readS exS [] exA).lines)=false:=by decide +kernel
theorem ex_again:(againD (blocksOf (readS exS [] exA).lines).tail).length=0:=by decide +kernel
theorem ex_wt:wtX (readS exS [] exA).lines≤100000000:=by decide +kernel
theorem ex_words:∀s∈exS,∀t∈linesT s.text,okW t=true:=by decide +kernel
theorem ex_plain:okAll (readS exS [] exA).lines=true:=by decide +kernel
theorem ex_none:findS exS exC=none:=by decide +kernel
theorem sort_one (n:ByteArray):sortN [n]=[n]:=by unfold sortN;simp[ofB]
theorem ex_chap:∃bs,bs.length=2∧chapM exS [] exA=⟨exA,bs,[],[exA,exB],[],[exX]⟩∧bs=blocksOf (readS exS [] exA).lines:=by
 refine⟨_,ex_blocks,?_,rfl⟩;have h1:=List.length_eq_zero_iff.1 ex_diags;have h2:=List.length_eq_zero_iff.1 ex_wrong;have h3:=List.length_eq_zero_iff.1 ex_again;unfold chapM chapR;rw[h1,h2,h3,firstD_eq,ex_first,ex_asked,ex_files,sort_one];rfl
theorem ex_miss:chapM exS [] exC=⟨exC,[],[⟨exC,0,1,exC⟩,⟨exC,1,13,⟨#[]⟩⟩],[],[],[]⟩:=by
 have e:readS exS [] exC={ firstA [] with diags:=[⟨exC,0,1,exC⟩] }:=by unfold readS;rw[ex_none]
 unfold chapM;rw[e];have e2:sortN []=[]:=by simp[sortN]
 unfold chapR
 show Ch.mk exC (blocksOf []) ([_]++diagsOf []++firstD exC (blocksOf [])++againD (blocksOf []).tail) [] (gotA _ (sortN [])) (lackA _ (sortN []))=_
 rw[e2];rfl
theorem ex_same (bs:List Bl):sameM ⟨exA,bs,[],[exA,exB],[],[exX]⟩ exS exS (firstA []).attrs=true:=by
 unfold sameM;dsimp only;decide +kernel
theorem ex_other (bs:List Bl):sameM ⟨exA,bs,[],[exA,exB],[],[exX]⟩ exS exS (firstA [⟨exX,⟨#[49]⟩⟩]).attrs=false:=by
 unfold sameM;dsimp only;decide +kernel
theorem ex_less (bs:List Bl):sameM ⟨exA,bs,[],[exA,exB],[],[exX]⟩ exS (exS.take 1) (firstA []).attrs=false:=by
 unfold sameM;dsimp only;decide +kernel
end Go.Bd
namespace Go.Proofs.YtkdknllcllhpgaaGreatDoor
open Go.RowKit Go.Bd
theorem lives_any {w:World}{m:Int} (hg:Glob m w) (h3:3≤w.heap.size) :
  Calls Tryz.prog 6 #[] w fun e w'=>e=.returned (.bool true)∧Below w.heap.size w w':=by
 have hB1:=(Below.refl w.heap.size w).alloc (Nat.le_refl _) (.cells #[.string ⟨#[97]⟩,.string ⟨#[61,32,79,110,101,10,64,105,110,99,108,117,100,101,32,98,10]⟩,.string ⟨#[98]⟩,.string ⟨#[123,120,125,10]⟩] 45);have hX1:=Holds.new w 45 #[.string ⟨#[97]⟩,.string ⟨#[61,32,79,110,101,10,64,105,110,99,108,117,100,101,32,98,10]⟩,.string ⟨#[98]⟩,.string ⟨#[123,120,125,10]⟩];obtain⟨p,hp⟩:∃p,w.heap.size=p:=⟨_,rfl⟩;rw[hp] at hX1;obtain⟨W1,hW1⟩:∃W1,w.alloc (.cells #[.string ⟨#[97]⟩,.string ⟨#[61,32,79,110,101,10,64,105,110,99,108,117,100,101,32,98,10]⟩,.string ⟨#[98]⟩,.string ⟨#[123,120,125,10]⟩] 45)=W1:=⟨_,rfl⟩;rw[hW1] at hB1 hX1;have hp1:p<W1.heap.size:=hX1.lt;have hsc:∀W,Below W1.heap.size W1 W→ScS W (fun b=>b=p) (.slice (some ⟨p,0,none⟩) 2 2) exS∧ScS W (fun b=>b=p) (.slice (some ⟨p,0,none⟩) 1 2) (exS.take 1):=fun W hW=>by
  have h:=hX1.below hW hp1;have c0:=h.cell 0;have c1:=h.cell 1;have c2:=h.cell 2;have c3:=h.cell 3;simp at c0 c1 c2 c3;constructor
  ·refine⟨_,2,rfl,Nat.le_refl _,fun j f hf=>?_⟩
   match j,hf with
   | 0,hf=>cases hf;exact⟨p,0,rfl,rfl,c0,c1⟩
   | 1,hf=>cases hf;exact⟨p,0,rfl,rfl,c2,c3⟩
   | j+2,hf=>simp[exS] at hf
  ·refine⟨_,2,rfl,by decide,fun j f hf=>?_⟩
   match j,hf with
   | 0,hf=>cases hf;exact⟨p,0,rfl,rfl,c0,c1⟩
   | j+1,hf=>simp[exS] at hf
 have hgl:∀W,Below W1.heap.size W1 W→Glob m W∧3≤W.heap.size∧Below w.heap.size w W:=fun W hW=>by
  have h:=hB1.trans (hW.mono hB1.size);exact⟨hg.chg (Chg.below h (fun _=>False)) (fun _ h=>h.elim),Nat.le_trans h3 h.size,h⟩
 have hnil:∀W,AtS W (fun _=>False) (.slice none 0 0) []:=fun W=>TwoS.nil _ _
 have hzs:∀s∈exS,s.text.size≤99999:=by decide +kernel
 have hC1:=fun W (hW:Below W1.heap.size W1 W)=>chapter_any (hsc W hW).1 (hnil W) (fun k hk=>by rw[hk];exact Nat.lt_of_lt_of_le hp1 hW.size) (fun k hk=>hk.elim) (by decide) (by decide) hzs (fun a ha=>by cases ha) (hgl W hW).1 (hgl W hW).2.1 exA (by decide) ex_wt ex_words ex_plain
 have hwt2:wtX (readS exS [] exC).lines≤100000000:=by unfold readS;rw[ex_none];exact Nat.zero_le _
 have hC2:=fun W (hW:Below W1.heap.size W1 W)=>chapter_any (hsc W hW).1 (hnil W) (fun k hk=>by rw[hk];exact Nat.lt_of_lt_of_le hp1 hW.size) (fun k hk=>hk.elim) (by decide) (by decide) hzs (fun a ha=>by cases ha) (hgl W hW).1 (hgl W hW).2.1 exC (by decide) hwt2 ex_words (by unfold readS;rw[ex_none];rfl)
 obtain⟨bs,hbs,hex,_⟩:=ex_chap;rw[hex] at hC1;rw[ex_miss] at hC2;have HH:=hidH6 hsc hgl hC1 hC2 hbs hp1;have HW:=hidH2 hW1 hp;clear hsc hgl hnil hzs hC1 hC2 hwt2 hbs hex hg h3 hX1 hB1 hp1
 go_enter Tryz.func6,Tryz.ntmps6
 go_wp2_with fail
 (try rw[HW.out.1])
 (try rw[HW.out.2])
 clear hW1 hp;refine (HH.out.2.2.1 W1 (Below.refl _ _)).mono ?_;rintro e W2 ⟨cv,rfl,hch,hb2⟩;obtain⟨bv,dv,fv,av,uv,rfl,m1,m2,m3,m4,m5⟩:=hch;have hchA:ChAt W2 W2.heap.size (.agg #[.string exA,bv,dv,fv,av,uv]) ⟨exA,bs,[],[exA,exB],[],[exX]⟩:=⟨bv,dv,fv,av,uv,rfl,m1,m2,m3,m4,m5⟩;obtain⟨Ab,cb,hbv,_⟩:=BlocksAt.form m1;obtain⟨Ad,cd,hdv,_⟩:=DiagsAt.form m2;obtain⟨Af,cf,hfv,_,hff⟩:=m3;obtain⟨Aa,ca,hav,_,_⟩:=m4;obtain⟨Au,cu,huv,_,huf⟩:=m5;obtain⟨gf,of,hAf,hgf,cf1⟩:=hff 1 exB rfl;obtain⟨gu,ou,hAu,hgu,cu0⟩:=huf 0 exX rfl;dsimp only at hbv hdv hfv hav huv;rw[HH.out.2.2.2.2.1] at hbv;simp only[List.length_nil,List.length_cons,List.map_nil,Nat.zero_add,Nat.reduceAdd] at hdv hfv hav huv;subst hbv hdv hfv hav huv hAf hAu;have hB3:=(Below.refl W2.heap.size W2).alloc (Nat.le_refl _) (.cells #[.string ⟨#[97]⟩,.slice Ab 2 cb,.slice Ad 0 cd,.slice (some ⟨gf,of,none⟩) 2 cf,.slice Aa 0 ca,.slice (some ⟨gu,ou,none⟩) 1 cu] 27);have hX3:=Holds.new W2 27 #[.string ⟨#[97]⟩,.slice Ab 2 cb,.slice Ad 0 cd,.slice (some ⟨gf,of,none⟩) 2 cf,.slice Aa 0 ca,.slice (some ⟨gu,ou,none⟩) 1 cu];obtain⟨q,hq⟩:∃q,W2.heap.size=q:=⟨_,rfl⟩;obtain⟨W3,hW3⟩:∃W3,W2.alloc (.cells #[.string ⟨#[97]⟩,.slice Ab 2 cb,.slice Ad 0 cd,.slice (some ⟨gf,of,none⟩) 2 cf,.slice Aa 0 ca,.slice (some ⟨gu,ou,none⟩) 1 cu] 27)=W3:=⟨_,rfl⟩;rw[hW3] at hB3 hX3;have hgf3:gf<W2.heap.size:=hgf;have hgu3:gu<W2.heap.size:=hgu;have hb13:=hb2.trans (hB3.mono hb2.size);have H3:=hidH8 hchA hB3 (hq ▸ hX3:Holds W3 q 27 _) cf1 cu0 hgf3 hgu3 hb13;have HW3:=hidH2 hW3 hq
 clear hchA hB3 hX3 cf1 cu0 hgf hgu hgf3 hgu3 hb13 hW3 hb2 hff huf m1 m2;have ezA:exA=⟨#[97]⟩:=rfl;rw[ezA]
 go_wp2_with fail
 (try rw[HW3.out.1])
 (try rw[HW3.out.2])
 clear hq;refine (HH.out.2.2.2.1 W3 H3.out.2.2.2.2.2.2.2).mono ?_;rintro e W4 ⟨cv,rfl,hch,hb4⟩;obtain⟨bv2,dv2,fv2,av2,uv2,rfl,m1,m2,m3,m4,m5⟩:=hch;obtain⟨Ab2,cb2,hbv,_⟩:=BlocksAt.form m1;obtain⟨Ad2,cd2,hdv,_⟩:=DiagsAt.form m2;obtain⟨Af2,cf2,hfv,_,_⟩:=m3;obtain⟨Aa2,ca2,hav,_,_⟩:=m4;obtain⟨Au2,cu2,huv,_,_⟩:=m5;dsimp only at hbv hdv hfv hav huv;simp only[List.length_nil,List.length_cons,List.map_nil,Nat.zero_add,Nat.reduceAdd] at hbv hdv hfv hav huv;subst hbv hdv hfv hav huv;obtain⟨gd,od,hAd,hgd,_,_,e0,_⟩:=DiagsAt.at m2 (j:=0) rfl;obtain⟨gd',od',hAd',_,_,_,e1,_⟩:=DiagsAt.at m2 (j:=1) rfl;subst hAd;injection hAd' with hAd'
 injection hAd' with h1 h2
 subst h1 h2;have hB5:=(Below.refl W4.heap.size W4).alloc (Nat.le_refl _) (.cells #[.string ⟨#[99]⟩,.slice Ab2 0 cb2,.slice (some ⟨gd,od,none⟩) 2 cd2,.slice Af2 0 cf2,.slice Aa2 0 ca2,.slice Au2 0 cu2] 27);have hX5:=Holds.new W4 27 #[.string ⟨#[99]⟩,.slice Ab2 0 cb2,.slice (some ⟨gd,od,none⟩) 2 cd2,.slice Af2 0 cf2,.slice Aa2 0 ca2,.slice Au2 0 cu2];obtain⟨r,hr⟩:∃r,W4.heap.size=r:=⟨_,rfl⟩;obtain⟨W5,hW5⟩:∃W5,W4.alloc (.cells #[.string ⟨#[99]⟩,.slice Ab2 0 cb2,.slice (some ⟨gd,od,none⟩) 2 cd2,.slice Af2 0 cf2,.slice Aa2 0 ca2,.slice Au2 0 cu2] 27)=W5:=⟨_,rfl⟩;rw[hW5] at hB5 hX5;rw[hr] at hX5;have h25:Below W2.heap.size W2 W5:=by
  have h1:=H3.out.2.1.trans (hb4.mono H3.out.2.1.size);exact h1.trans (hB5.mono h1.size)
 have h35:Below W3.heap.size W3 W5:=hb4.trans (hB5.mono hb4.size);have h15:Below W1.heap.size W1 W5:=H3.out.2.2.2.2.2.2.2.trans (h35.mono H3.out.2.2.2.2.2.2.2.size);have hgd4:gd<W4.heap.size:=hgd;have hall:∀W,Below W5.heap.size W5 W→(W.cell? ⟨q,0,none⟩=some (.string ⟨#[97]⟩)∧W.cell? ⟨q,1,none⟩=some (.slice Ab 2 cb)∧W.cell? ⟨q,2,none⟩=some (.slice Ad 0 cd)∧W.cell? ⟨q,3,none⟩=some (.slice (some ⟨gf,of,none⟩) 2 cf)∧W.cell? ⟨q,4,none⟩=some (.slice Aa 0 ca)∧W.cell? ⟨q,5,none⟩=some (.slice (some ⟨gu,ou,none⟩) 1 cu)) ∧
   W.cell? ⟨r,2,none⟩=some (.slice (some ⟨gd,od,none⟩) 2 cd2)∧W.cell? ⟨gf,of+1,none⟩=some (.string ⟨#[98]⟩)∧W.cell? ⟨gu,ou,none⟩=some (.string ⟨#[120]⟩)∧W.cell? ⟨gd,od+2,none⟩=some (.int .i64 1)∧W.cell? ⟨gd,od+4+2,none⟩=some (.int .i64 13) ∧
   ChAt W W.heap.size (.agg #[.string ⟨#[97]⟩,.slice Ab 2 cb,.slice Ad 0 cd,.slice (some ⟨gf,of,none⟩) 2 cf,.slice Aa 0 ca,.slice (some ⟨gu,ou,none⟩) 1 cu]) ⟨exA,bs,[],[exA,exB],[],[exX]⟩∧Below W1.heap.size W1 W:=fun W hW=>by
  have h3:=H3.out.2.2.1.below (h35.trans (hW.mono h35.size)) H3.out.2.2.1.lt;have h5:=hX5.below hW hX5.lt;have a0:=h3.cell 0;have a1:=h3.cell 1;have a2:=h3.cell 2;have a3:=h3.cell 3;have a4:=h3.cell 4;have a5:=h3.cell 5;have b2:=h5.cell 2;simp at a0 a1 a2 a3 a4 a5 b2;have h2W:=h25.trans (hW.mono h25.size);have h4W:=hB5.trans (hW.mono hB5.size);refine⟨⟨a0,a1,a2,a3,a4,a5⟩,b2,(h2W.cell (p:=⟨gf,of+1,none⟩) H3.out.2.2.2.2.2.1).trans H3.out.2.2.2.1,(h2W.cell (p:=⟨gu,ou,none⟩) H3.out.2.2.2.2.2.2.1).trans H3.out.2.2.2.2.1,(h4W.cell (p:=⟨gd,od+2,none⟩) hgd4).trans ?_,(h4W.cell (p:=⟨gd,od+4+2,none⟩) hgd4).trans ?_,ChAt.up H3.out.1 h2W (Nat.le_refl _) h2W.size,h15.trans (hW.mono h15.size)⟩
  ·rw[Nat.zero_mul,Nat.add_zero] at e0;exact e0
  ·rw[Nat.one_mul] at e1;exact e1
 have H5:=Lib.hid hall;have HW5:=hidH2 hW5 hr;obtain⟨⟨c0,c1,c2,c3,c4,c5⟩,d2,f1,u0,g0,g1,hz1,hz2⟩:=hall W5 (Below.refl _ _);clear hz1 hz2;clear hall hB5 hX5 h25 h35 h15 hgd hgd4 e0 e1 m1 m2 hb4;have ezC:exC=⟨#[99]⟩:=rfl;rw[ezC];have hlc:([exA,exB]:List ByteArray).length≤1000000000∧([]:List Dg).length≤1000000000∧([]:List At).length≤2000000000∧([exX]:List ByteArray).length≤2000000000:=by decide
 have hS1:∀W,Below W5.heap.size W5 W→Calls Tryz.prog 10 #[.agg #[.string ⟨#[97]⟩,.slice Ab 2 cb,.slice Ad 0 cd,.slice (some ⟨gf,of,none⟩) 2 cf,.slice Aa 0 ca,.slice (some ⟨gu,ou,none⟩) 1 cu],.slice (some ⟨p,0,none⟩) 2 2,.slice (some ⟨p,0,none⟩) 2 2,.slice none 0 0] W fun e w'=>e=.returned (.bool true)∧Below W.heap.size W w':=fun W hW=>by
  obtain⟨_,_,_,_,_,_,hch,hW1⟩:=H5.out W hW;have hlt:∀k,k=p→k<W.heap.size:=fun k hk=>by rw[hk];exact Nat.lt_of_lt_of_le HH.out.2.2.2.2.2 hW1.size
  have h:=same_ch (attrs:=[]) hch (Nat.le_refl _) (HH.out.1 W hW1).1 (HH.out.1 W hW1).1 (TwoS.nil W (fun _=>False)) hlt hlt (fun k hk=>hk.elim) (by decide) (by decide) (by decide) (fun a ha=>by cases ha) hlc;rw[ex_same] at h;exact h
 have hS2:∀W,Below W5.heap.size W5 W→Calls Tryz.prog 10 #[.agg #[.string ⟨#[97]⟩,.slice Ab 2 cb,.slice Ad 0 cd,.slice (some ⟨gf,of,none⟩) 2 cf,.slice Aa 0 ca,.slice (some ⟨gu,ou,none⟩) 1 cu],.slice (some ⟨p,0,none⟩) 2 2,.slice (some ⟨p,0,none⟩) 2 2,.slice (some ⟨W.heap.size,0,none⟩) 1 1] (W.alloc (.cells #[.string ⟨#[120]⟩,.string ⟨#[49]⟩] 47)) fun e w'=>e=.returned (.bool false)∧Below (W.alloc (.cells #[.string ⟨#[120]⟩,.string ⟨#[49]⟩] 47)).heap.size (W.alloc (.cells #[.string ⟨#[120]⟩,.string ⟨#[49]⟩] 47)) w':=fun W hW=>by
  have hWa:Below W5.heap.size W5 (W.alloc (.cells #[.string ⟨#[120]⟩,.string ⟨#[49]⟩] 47)):=hW.alloc hW.size _;obtain⟨_,_,_,_,_,_,hch,hW1⟩:=H5.out _ hWa;have hlt:∀k,k=p→k<(W.alloc (.cells #[.string ⟨#[120]⟩,.string ⟨#[49]⟩] 47)).heap.size:=fun k hk=>by rw[hk];exact Nat.lt_of_lt_of_le HH.out.2.2.2.2.2 hW1.size
  have hX:=Holds.new W 47 #[.string ⟨#[120]⟩,.string ⟨#[49]⟩];have x0:=hX.cell 0;have x1:=hX.cell 1;simp only[List.getElem?_toArray,List.getElem?_cons_zero,List.getElem?_cons_succ] at x0 x1;have hat:AtS (W.alloc (.cells #[.string ⟨#[120]⟩,.string ⟨#[49]⟩] 47)) (fun b=>b=W.heap.size) (.slice (some ⟨W.heap.size,0,none⟩) 1 1) [⟨exX,⟨#[49]⟩⟩]:=by
   refine⟨_,1,rfl,Nat.le_refl _,fun j f hf=>?_⟩
   match j,hf with
   | 0,hf=>cases hf;exact⟨W.heap.size,0,rfl,rfl,x0,x1⟩
   | j+1,hf=>simp at hf
  have h:=same_ch hch (Nat.le_refl _) (HH.out.1 _ hW1).1 (HH.out.1 _ hW1).1 hat hlt hlt (fun k hk=>by rw[hk];simp) (by decide) (by decide) (by decide) (fun a ha=>by rw[List.mem_singleton.1 ha];decide) hlc;rw[ex_other] at h;exact h
 have hS3:∀W,Below W5.heap.size W5 W→Calls Tryz.prog 10 #[.agg #[.string ⟨#[97]⟩,.slice Ab 2 cb,.slice Ad 0 cd,.slice (some ⟨gf,of,none⟩) 2 cf,.slice Aa 0 ca,.slice (some ⟨gu,ou,none⟩) 1 cu],.slice (some ⟨p,0,none⟩) 2 2,.slice (some ⟨p,0,none⟩) 1 2,.slice none 0 0] W fun e w'=>e=.returned (.bool false)∧Below W.heap.size W w':=fun W hW=>by
  obtain⟨_,_,_,_,_,_,hch,hW1⟩:=H5.out W hW;have hlt:∀k,k=p→k<W.heap.size:=fun k hk=>by rw[hk];exact Nat.lt_of_lt_of_le HH.out.2.2.2.2.2 hW1.size
  have h:=same_ch (attrs:=[]) hch (Nat.le_refl _) (HH.out.1 W hW1).1 (HH.out.1 W hW1).2 (TwoS.nil W (fun _=>False)) hlt hlt (fun k hk=>hk.elim) (by decide) (by decide) (by decide) (fun a ha=>by cases ha) hlc;rw[ex_less] at h;exact h
 have hK:∀W,Below W5.heap.size W5 W→(W.cell? ⟨q,0,none⟩=some (.string ⟨#[97]⟩)∧W.cell? ⟨q,1,none⟩=some (.slice Ab 2 cb)∧W.cell? ⟨q,2,none⟩=some (.slice Ad 0 cd)∧W.cell? ⟨q,3,none⟩=some (.slice (some ⟨gf,of,none⟩) 2 cf)∧W.cell? ⟨q,4,none⟩=some (.slice Aa 0 ca)∧W.cell? ⟨q,5,none⟩=some (.slice (some ⟨gu,ou,none⟩) 1 cu))∧W.cell? ⟨r,2,none⟩=some (.slice (some ⟨gd,od,none⟩) 2 cd2)∧W.cell? ⟨gf,of+1,none⟩=some (.string ⟨#[98]⟩)∧W.cell? ⟨gu,ou,none⟩=some (.string ⟨#[120]⟩)∧W.cell? ⟨gd,od+2,none⟩=some (.int .i64 1)∧W.cell? ⟨gd,od+4+2,none⟩=some (.int .i64 13):=fun W hW=>by
  obtain⟨a1,a2,a3,a4,a5,a6,_,_⟩:=H5.out W hW;exact⟨a1,a2,a3,a4,a5,a6⟩
 have K5:=hK W5 (Below.refl _ _);have HS:=hidH4 hS1 hS2 hS3 hK;clear hS1 hS2 hS3 hK hlc
 go_wp2_with fail
 (try rw[HW5.out.1])
 clear hW5 hr c0 c1 c2 c3 c4 c5 d2 f1 u0 g0 g1;refine wp_region_held_drew (S:=(fun w'=>(w'.cell? ⟨q,0,none⟩=some (.string ⟨#[97]⟩)∧w'.cell? ⟨q,1,none⟩=some (.slice Ab 2 cb)∧w'.cell? ⟨q,2,none⟩=some (.slice Ad 0 cd)∧w'.cell? ⟨q,3,none⟩=some (.slice (some ⟨gf,of,none⟩) 2 cf)∧w'.cell? ⟨q,4,none⟩=some (.slice Aa 0 ca)∧w'.cell? ⟨q,5,none⟩=some (.slice (some ⟨gu,ou,none⟩) 1 cu))∧w'.cell? ⟨r,2,none⟩=some (.slice (some ⟨gd,od,none⟩) 2 cd2)∧w'.cell? ⟨gf,of+1,none⟩=some (.string ⟨#[98]⟩)∧w'.cell? ⟨gu,ou,none⟩=some (.string ⟨#[120]⟩)∧w'.cell? ⟨gd,od+2,none⟩=some (.int .i64 1)∧w'.cell? ⟨gd,od+4+2,none⟩=some (.int .i64 13))) (by kernel_rfl) ?_ (fun hHeld0=>?_)
 ·(try dsimp only)
  first|exact K5|exact K6|exact K7|exact K8|exact K9
 refine tkH 0 11 ?_;refine tkH 1 12 ?_;refine tkH 2 13 ?_;refine tkH 3 14 ?_;refine tkH 4 15 ?_;refine tkH 5 16 ?_;refine tkH 6 17 ?_;refine tkH 7 18 ?_;refine tkH 8 19 ?_;refine tkH 9 20 ?_;refine tkH 10 21 ?_;refine tkH 11 22 ?_;refine tkH 12 23 ?_;refine tkH 13 24 ?_;refine tkH 14 25 ?_;refine tkH 15 26 ?_;refine tkH 16 27 ?_;refine tkH 17 28 ?_;refine tkH 18 29 ?_;refine tkH 19 30 ?_;refine tkH 20 31 ?_;refine wpAnyH_take (i:=21) (oi:=⟨some 32,_,_,_,_,_⟩) (v:=(.bool true)) rfl (by kernel_rfl) (by kernel_rfl) (by kernel_rfl) (fun _ _ _ h=>h) (Or.inl ⟨by kernel_rfl,?_⟩) (by assumption) ?_
 ·(intro w hSw;kernel_rfl)
 (try go_frame)
 refine tkH 22 33 ?_;refine tkH 23 34 ?_;refine tkH 24 35 ?_;refine tkH 25 36 ?_;refine tkH 26 37 ?_;refine tkH 27 38 ?_;refine tkH 28 39 ?_;refine tkH 29 40 ?_;refine tkH 30 41 ?_;refine tkH 31 42 ?_;refine tkH 32 43 ?_;refine tkH 33 44 ?_;refine wpAnyH_take (i:=34) (oi:=⟨some 45,_,_,_,_,_⟩) (v:=(.bool true)) rfl (by kernel_rfl) (by kernel_rfl) (by kernel_rfl) (fun _ _ _ h=>h) (Or.inl ⟨by kernel_rfl,?_⟩) (by assumption) ?_
 ·(intro w hSw;kernel_rfl)
 (try go_frame)
 refine tkH 35 46 ?_;refine tkH 36 47 ?_;refine tkH 37 48 ?_;refine tkH 38 49 ?_;refine tkH 39 50 ?_;refine rdyH [40] ?_;refine AllReadyH.cons (o:=⟨some 51,_,_,_,_,_⟩) rfl (fun K hK=>?_) AllReadyH.nil;go_simp;refine (HS.out.1 _ ((Below.refl W5.heap.size W5).drew)).mono ?_;rintro e W6 ⟨rfl,hb6⟩;have HB6:=Lib.hid (((Below.refl W5.heap.size W5).drew).trans hb6);have K6:=HS.out.2.2.2 W6 HB6.out;have K7:=HS.out.2.2.2 (W6.alloc (.cells #[.string ⟨#[120]⟩,.string ⟨#[49]⟩] 47)) (HB6.out.alloc HB6.out.size _);clear hb6;refine hK.out _ _ ?_ (fun hHeld1=>?_)
 ·(try dsimp only)
  first|exact K5|exact K6|exact K7|exact K8|exact K9
 clear hK K hHeld0
 (try go_frame)
 refine tkH 41 52 ?_;refine tkH 42 53 ?_;refine tkH 43 54 ?_;refine tkH 44 55 ?_;refine tkH 45 56 ?_;refine tkH 46 57 ?_;refine rdyH [47] ?_;refine AllReadyH.cons (o:=⟨some 58,_,_,_,_,_⟩) rfl (fun K hK=>?_) AllReadyH.nil;go_simp;refine hK.out _ _ ?_ (fun hHeld2=>?_)
 ·(try dsimp only)
  first|exact K5|exact K6|exact K7|exact K8|exact K9
 clear hK K hHeld1
 (try go_frame)
 refine rdyH [48] ?_;refine AllReadyH.cons (o:=⟨some 59,_,_,_,_,_⟩) rfl (fun K hK=>?_) AllReadyH.nil;go_simp;refine (HS.out.2.1 W6 HB6.out).mono ?_;rintro e W8 ⟨rfl,hb8⟩;have HB8:=Lib.hid ((HB6.out.alloc HB6.out.size (.cells #[.string ⟨#[120]⟩,.string ⟨#[49]⟩] 47)).trans (hb8.mono (by have:=HB6.out.size;simp;omega)));have K8:=HS.out.2.2.2 W8 HB8.out;clear hb8;refine hK.out _ _ ?_ (fun hHeld3=>?_)
 ·(try dsimp only)
  first|exact K5|exact K6|exact K7|exact K8|exact K9
 clear hK K hHeld2
 (try go_frame)
 refine tkH 49 60 ?_;refine tkH 50 61 ?_;refine tkH 51 62 ?_;refine tkH 52 63 ?_;refine tkH 53 64 ?_;refine tkH 54 65 ?_;refine tkH 55 66 ?_;refine rdyH [56] ?_;refine AllReadyH.cons (o:=⟨some 67,_,_,_,_,_⟩) rfl (fun K hK=>?_) AllReadyH.nil;go_simp;refine (HS.out.2.2.1 W8 HB8.out).mono ?_;rintro e W9 ⟨rfl,hb9⟩;have HB9:=Lib.hid (HB8.out.trans (hb9.mono HB8.out.size));have K9:=HS.out.2.2.2 W9 HB9.out;clear hb9;refine hK.out _ _ ?_ (fun hHeld4=>?_)
 ·(try dsimp only)
  first|exact K5|exact K6|exact K7|exact K8|exact K9
 clear hK K hHeld3
 (try go_frame)
 refine tkH 57 68 ?_;refine tkH 58 69 ?_;refine tkH 59 70 ?_;refine tkH 60 71 ?_;refine tkH 61 72 ?_;refine tkH 62 73 ?_;refine tkH 63 74 ?_;refine tkH 64 75 ?_;refine tkH 65 76 ?_;refine tkH 66 77 ?_;refine tkH 67 78 ?_;refine tkH 68 79 ?_;refine tkH 69 80 ?_;refine tkH 70 81 ?_;refine tkH 71 82 ?_;refine tkH 72 83 ?_;refine tkH 73 84 ?_;refine tkH 74 85 ?_;refine tkH 75 86 ?_;refine tkH 76 87 ?_;refine tkH 77 88 ?_;refine tkH 78 89 ?_;refine tkH 79 90 ?_;refine tkH 80 91 ?_;refine tkH 81 0 ?_;refine wpAnyH_done (by kernel_rfl) ?_ _
 go_wp2_with fail
 go_ret
 exact⟨rfl,(HH.out.2.1 W9 (H5.out W9 HB9.out).2.2.2.2.2.2.2).2.2⟩
end Go.Proofs.YtkdknllcllhpgaaGreatDoor
namespace Go.Proofs.YtkdknllcllhpgaaGreatDoor
open Go.RowKit Go.Bd
theorem FlatAt.form2 {w:World}{v:Value}{l:List (ByteArray×ByteArray)} (h:FlatAt twC 2 w v l):∃A n k,v=.slice A n k:=by
 obtain⟨A,c,h,-⟩:=h;exact⟨_,_,_,h⟩
theorem FlatM.form2 {α:Type}{f:α→List Value}{k:Nat}{t:TypeId}{mk:List Value}{b:Nat}{w:World}{v:Value}{l:List α} (h:FlatM f k t mk b w v l):∃A n k,v=.slice A n k:=by
 obtain⟨g,c,h,-⟩:=h;exact⟨_,_,_,h⟩
theorem fine_at {src:List Sc}{attrs:List At} (h:Fine src attrs):∀a∈attrs,a.name.size≤100000∧a.value.size≤100000:=by
 obtain⟨h1,_⟩:=h;intro a ha;have:=twoZ_mem (List.mem_map_of_mem (f:=atP) ha)
 unfold atP at this h1;dsimp only at this;constructor<;>omega
theorem same_true {w:World}{bv dv fv av uv sv lv tv:Value}{c:Cx}{was l:List Sc}{a:List At} (hc:ChIn w (.string c.name) bv dv fv av uv c) (hs:FlatAt twC 2 w sv (was.map scP)) (hl:FlatAt twC 2 w lv (l.map scP)) (ha:FlatAt twC 2 w tv (a.map atP)) (hz:szCx c+twoZ (was.map scP)+twoZ (l.map scP)+twoZ (a.map atP)≤1048576){m:Int} (hg:Glob m w) (h3:3≤w.heap.size) :
  Calls Tryz.prog 3 #[.agg #[.string c.name,bv,dv,fv,av,uv,sv,lv,tv]] w fun e w'=>e=.returned (.bool true)∧Below w.heap.size w w':=by
 obtain⟨A1,n1,k1,A2,n2,k2,A3,n3,k3,A4,n4,k4,A5,n5,k5,rfl,rfl,rfl,rfl,rfl⟩:=hc.form;obtain⟨A6,n6,k6,rfl⟩:=FlatAt.form2 hs;obtain⟨A7,n7,k7,rfl⟩:=FlatAt.form2 hl;obtain⟨A8,n8,k8,rfl⟩:=FlatAt.form2 ha;obtain⟨nm,hnm⟩:∃x,c.name=x:=⟨_,rfl⟩;have hb0:=(Below.refl w.heap.size w).alloc (Nat.le_refl _) (.cells #[.string nm,.slice A1 n1 k1,.slice A2 n2 k2,.slice A3 n3 k3,.slice A4 n4 k4,.slice A5 n5 k5,.slice A6 n6 k6,.slice A7 n7 k7,.slice A8 n8 k8] 30);have hX:=Holds.new w 30 #[.string nm,.slice A1 n1 k1,.slice A2 n2 k2,.slice A3 n3 k3,.slice A4 n4 k4,.slice A5 n5 k5,.slice A6 n6 k6,.slice A7 n7 k7,.slice A8 n8 k8];obtain⟨p,hp⟩:∃p,w.heap.size=p:=⟨_,rfl⟩;obtain⟨W0,hW0⟩:∃W0,w.alloc (.cells #[.string nm,.slice A1 n1 k1,.slice A2 n2 k2,.slice A3 n3 k3,.slice A4 n4 k4,.slice A5 n5 k5,.slice A6 n6 k6,.slice A7 n7 k7,.slice A8 n8 k8] 30)=W0:=⟨_,rfl⟩;rw[hW0] at hb0 hX;rw[hp] at hX;have zc:szCx c≤1048576:=by omega
 have hpt:=szCx_parts zc;have z1:twoZ (was.map scP)≤1048576:=by omega
 have z2:twoZ (l.map scP)≤1048576:=by omega
 have z3:twoZ (a.map atP)≤1048576:=by omega
 have l1:=Nat.le_trans (twoZ_len _) z1;have l2:=Nat.le_trans (twoZ_len _) z2;have l3:=Nat.le_trans (twoZ_len _) z3;have hall:∀W,Below W0.heap.size W0 W→(W.cell? ⟨p,0,none⟩=some (.string nm)∧W.cell? ⟨p,1,none⟩=some (.slice A1 n1 k1)∧W.cell? ⟨p,2,none⟩=some (.slice A2 n2 k2)∧W.cell? ⟨p,3,none⟩=some (.slice A3 n3 k3)∧W.cell? ⟨p,4,none⟩=some (.slice A4 n4 k4)∧W.cell? ⟨p,5,none⟩=some (.slice A5 n5 k5)∧W.cell? ⟨p,6,none⟩=some (.slice A6 n6 k6)∧W.cell? ⟨p,7,none⟩=some (.slice A7 n7 k7)∧W.cell? ⟨p,8,none⟩=some (.slice A8 n8 k8))∧Below w.heap.size w W:=fun W hW=>by
  have h:=hX.below hW hX.lt;have c0:=h.cell 0;have c1:=h.cell 1;have c2:=h.cell 2;have c3:=h.cell 3;have c4:=h.cell 4;have c5:=h.cell 5;have c6:=h.cell 6;have c7:=h.cell 7;have c8:=h.cell 8;simp at c0 c1 c2 c3 c4 c5 c6 c7 c8;exact⟨⟨c0,c1,c2,c3,c4,c5,c6,c7,c8⟩,hb0.trans (hW.mono hb0.size)⟩
 have hcW:=fun W (hW:Below W0.heap.size W0 W)=>hc.below (hall W hW).2
 have hsW:=fun W (hW:Below W0.heap.size W0 W)=>hs.below (hall W hW).2
 have hlW:=fun W (hW:Below W0.heap.size W0 W)=>hl.below (hall W hW).2
 have haW:=fun W (hW:Below W0.heap.size W0 W)=>ha.below (hall W hW).2
 have G1:=fun W (hW:Below W0.heap.size W0 W)=>great_any (src:=was) (attrs:=a) ((hsW W hW).two (fun _=>rfl)) ((haW W hW).two (fun _=>rfl)) (fun _ h=>h) (fun _ h=>h) z1 z3
 have G2:=fun W (hW:Below W0.heap.size W0 W)=>great_any (src:=l) (attrs:=[]) ((hlW W hW).two (fun _=>rfl)) (TwoS.nil W (fun _=>False)) (fun _ h=>h) (fun _ h=>h.elim) z2 (by decide)
 have ZC:=fun W (hW:Below W0.heap.size W0 W)=>chapterSize_any (hcW W hW) zc
 have LV:=fun W (hW:Below W0.heap.size W0 W)=>lives_any (hg.chg (Chg.below (hall W hW).2 (fun _=>False)) (fun _ h=>h.elim)) (Nat.le_trans h3 (hall W hW).2.size)
 have TC:=fun W (hW:Below W0.heap.size W0 W)=>twinChapter_any (hcW W hW) zc
 have TS:=fun W (hW:Below W0.heap.size W0 W)=>twinSources_any (hsW W hW) l1
 have TL:=fun W (hW:Below W0.heap.size W0 W)=>twinSources_any (hlW W hW) l2
 have TA:=fun W (hW:Below W0.heap.size W0 W)=>twinAttrs_any (haW W hW) l3
 have hlen:c.files.length≤1000000000∧c.diags.length≤1000000000∧c.attrs.length≤2000000000∧c.unset.length≤2000000000:=by
  have h1:=hpt.2.2.2.2.2.2.2.1;rw[List.length_map] at h1;exact⟨by have:=hpt.2.2.2.2.2.2.1;omega,by have:=hpt.2.2.2.2.2.1;omega,by omega,by have:=hpt.2.2.2.2.2.2.2.2;omega⟩
 rw[List.length_map] at l1 l2 l3;have PS:=fun (hf:Fine was a) W (cv xv yv qv:Value) (h1:CxAt W W.heap.size cv c) (h2:FlatAt twC 2 W xv (was.map scP)) (h3:FlatAt twC 2 W yv (l.map scP)) (h4:FlatAt twC 2 W qv (a.map atP))=>same_cx (was:=was) (l:=l) (attrs:=a) h1 (Nat.le_refl _) (h2.two (fun _=>rfl)) (h3.two (fun _=>rfl)) (h4.two (fun _=>rfl)) (fun _ h=>h) (fun _ h=>h) (fun _ h=>h) (by omega) (by omega) (by omega) (fine_at hf) hlen
 have RS:=fun (hf:Fine was a) W (hW:Below W0.heap.size W0 W)=>same_rx (was:=was) (l:=l) (attrs:=a) (hcW W hW).reads (Nat.le_refl _) ((hsW W hW).two (fun _=>rfl)) ((hlW W hW).two (fun _=>rfl)) ((haW W hW).two (fun _=>rfl)) (fun _ h=>h) (fun _ h=>h) (fun _ h=>h) (by omega) (by omega) (by omega) (fine_at hf) hlen
 have LC:=fun W (hW:Below W0.heap.size W0 W) tb td tf ta tu (ht:ChMk W W.heap.size tb td tf ta tu c)=>leftChapter_any ht (hcW W hW) zc
 have LS:=fun W (hW:Below W0.heap.size W0 W) xv b (ht:FlatM twC 2 45 markS b W xv (was.map scP))=>leftSources_any ht (hsW W hW) (by rw[List.length_map];exact l1)
 have LL:=fun W (hW:Below W0.heap.size W0 W) xv b (ht:FlatM twC 2 45 markS b W xv (l.map scP))=>leftSources_any ht (hlW W hW) (by rw[List.length_map];exact l2)
 have LA:=fun W (hW:Below W0.heap.size W0 W) xv b (ht:FlatM twC 2 47 markA b W xv (a.map atP))=>leftAttrs_any ht (haW W hW) (by rw[List.length_map];exact l3)
 obtain⟨sm,hsm⟩:∃x,sameX c was l (firstA a).attrs=x:=⟨_,rfl⟩;obtain⟨zz,hzz⟩:∃x,szCx c=x:=⟨_,rfl⟩;simp only[hsm] at PS RS;simp only[hnm,hzz] at ZC TC RS LC;rw[hnm];have HC:=Lib.hid hall;have HG:=hidH4 G1 G2 ZC LV;have HT:=hidH4 TC TS TL TA;have HS:=hidH2 PS RS;have HL:=hidH4 LC LS LL LA;have HW:=hidH2 hW0 hp;have HN:=Lib.hid hnm;have hzn:zz≤1048576:=by rw[←hzz];exact zc
 obtain⟨⟨-,-,-,-,-,-,c6,-,c8⟩,-⟩:=hall W0 (Below.refl _ _);clear hc hs hl ha hz hg h3 hb0 hX zc hpt z1 z2 z3 l1 l2 l3 hall hcW hsW hlW haW G1 G2 ZC LV TC TS TL TA PS RS LC LS LL LA hlen hsm hzz hnm
 go_enter Tryz.func3,Tryz.ntmps3
 go_wp2_with fail
 (try rw[HW.out.1])
 (try rw[HW.out.2])
 clear hW0 hp c6 c8;refine (HG.out.1 W0 (Below.refl _ _)).mono ?_;intro e w1 hP;unfold GrP at hP;obtain⟨gb,rfl,hgb,hb1⟩:=hP;have HB1:=Lib.hid hb1;cases gb
 ·have Hf:=Lib.hid (hgb rfl);obtain⟨⟨-,-,-,-,-,-,-,c7,-⟩,-⟩:=HC.out w1 hb1;clear hgb hb1
  go_wp2_with fail
  refine (HG.out.2.1 w1 HB1.out).mono ?_;clear c7;intro e w2 hP;unfold GrP at hP;obtain⟨gb,rfl,-,hb2⟩:=hP;have HB2:=Lib.hid (HB1.out.trans (hb2.mono HB1.out.size));clear hb2;cases gb
  ·obtain⟨⟨c0,c1,c2,c3,c4,c5,-,-,-⟩,-⟩:=HC.out w2 HB2.out
   go_wp2_with fail
   refine (HG.out.2.2.1 w2 HB2.out).mono ?_;clear c0 c1 c2 c3 c4 c5;rintro e w3 ⟨rfl,hb3⟩;have HB3:=Lib.hid (HB2.out.trans (hb3.mono HB2.out.size));clear hb3
   by_cases hbig:20000<zz
   ·have hb':(20000:Int)<(zz:Int):=by omega
    go_wp2_with fail
    refine (HG.out.2.2.2 w3 HB3.out).mono ?_;rintro e w4 ⟨rfl,hb4⟩
    go_wp2_with fail
    go_ret
    exact⟨rfl,(HC.out w4 (HB3.out.trans (hb4.mono HB3.out.size))).2⟩
   ·have hb':¬(20000:Int)<(zz:Int):=by omega
    obtain⟨⟨c0,c1,c2,c3,c4,c5,-,-,-⟩,-⟩:=HC.out w3 HB3.out
    go_wp2_with fail
    refine (HT.out.1 w3 HB3.out).mono ?_;clear c0 c1 c2 c3 c4 c5 hb' hbig;rintro e w4 ⟨tb,td,tf,ta,tu,rfl,ht,hb4⟩;obtain⟨T1,m1,j1,T2,m2,j2,T3,m3,j3,T4,m4,j4,T5,m5,j5,rfl,rfl,rfl,rfl,rfl⟩:=ht.form;have hb4':=HB3.out.trans (hb4.mono HB3.out.size);have hY:=Holds.new w4 27 #[.string nm,.slice T1 m1 j1,.slice T2 m2 j2,.slice T3 m3 j3,.slice T4 m4 j4,.slice T5 m5 j5];obtain⟨q,hq⟩:∃q,w4.heap.size=q:=⟨_,rfl⟩;have hb45:=(Below.refl w4.heap.size w4).alloc (Nat.le_refl _) (.cells #[.string nm,.slice T1 m1 j1,.slice T2 m2 j2,.slice T3 m3 j3,.slice T4 m4 j4,.slice T5 m5 j5] 27);obtain⟨W5,hW5⟩:∃W5,w4.alloc (.cells #[.string nm,.slice T1 m1 j1,.slice T2 m2 j2,.slice T3 m3 j3,.slice T4 m4 j4,.slice T5 m5 j5] 27)=W5:=⟨_,rfl⟩;rw[hW5] at hY hb45;rw[hq] at hY;have hq5:∀W,Below W5.heap.size W5 W→(W.cell? ⟨q,0,none⟩=some (.string nm)∧W.cell? ⟨q,1,none⟩=some (.slice T1 m1 j1)∧W.cell? ⟨q,2,none⟩=some (.slice T2 m2 j2)∧W.cell? ⟨q,3,none⟩=some (.slice T3 m3 j3)∧W.cell? ⟨q,4,none⟩=some (.slice T4 m4 j4)∧W.cell? ⟨q,5,none⟩=some (.slice T5 m5 j5))∧Below W0.heap.size W0 W∧ChMk W W.heap.size (.slice T1 m1 j1) (.slice T2 m2 j2) (.slice T3 m3 j3) (.slice T4 m4 j4) (.slice T5 m5 j5) c:=fun W hW=>by
     have h:=hY.below hW hY.lt;have c0:=h.cell 0;have c1:=h.cell 1;have c2:=h.cell 2;have c3:=h.cell 3;have c4:=h.cell 4;have c5:=h.cell 5;simp at c0 c1 c2 c3 c4 c5;have hbw:=hb45.trans (hW.mono hb45.size);exact⟨⟨c0,c1,c2,c3,c4,c5⟩,hb4'.trans (hbw.mono hb4'.size),ht.below hbw (Nat.le_refl _) hbw.size⟩
    have HQ:=Lib.hid hq5;have HW5:=hidH2 hW5 hq;obtain⟨⟨-,-,-,-,-,-,c6,-,-⟩,-⟩:=HC.out W5 (hq5 W5 (Below.refl _ _)).2.1;obtain⟨⟨-,-,-,-,-,-,d6,-,-⟩,-⟩:=HC.out w4 hb4';rw[←hW5] at c6;clear ht hb4 hb4' hY hb45 hq5 hW5 hq
    go_wp2_with fail
    (try rw[HW5.out.1])
    (try rw[HW5.out.2])
    clear c6 d6;refine (HT.out.2.1 W5 (HQ.out W5 (Below.refl _ _)).2.1).mono ?_;rintro e w6 ⟨xv,rfl,ht6,hb6⟩;obtain⟨X1,x1,y1,rfl⟩:=FlatM.form2 ht6;have HB6:=Lib.hid hb6;have HT6:=Lib.hid ht6;obtain⟨⟨-,-,-,-,-,-,-,c7,-⟩,-⟩:=HC.out w6 (HQ.out w6 hb6).2.1;clear ht6 hb6
    go_wp2_with fail
    refine (HT.out.2.2.1 w6 (HQ.out w6 HB6.out).2.1).mono ?_;clear c7;rintro e w7 ⟨xv,rfl,ht7,hb7⟩;obtain⟨X2,x2,y2,rfl⟩:=FlatM.form2 ht7;have HB7:=Lib.hid (HB6.out.trans (hb7.mono HB6.out.size));have HT6':=Lib.hid (HT6.out.below hb7);have HT7:=Lib.hid ht7;obtain⟨⟨-,-,-,-,-,-,-,-,c8⟩,-⟩:=HC.out w7 (HQ.out w7 HB7.out).2.1;clear ht7 hb7 HT6
    go_wp2_with fail
    refine (HT.out.2.2.2 w7 (HQ.out w7 HB7.out).2.1).mono ?_;clear c8;rintro e w8 ⟨xv,rfl,ht8,hb8⟩;obtain⟨X3,x3,y3,rfl⟩:=FlatM.form2 ht8;have hb58:=HB7.out.trans (hb8.mono HB7.out.size);have hk6:=HT6'.out.below hb8;have hk7:=HT7.out.below hb8;have HK:Hid (∀W,Below w8.heap.size w8 W→((W.cell? ⟨p,0,none⟩=some (.string nm)∧W.cell? ⟨p,1,none⟩=some (.slice A1 n1 k1)∧W.cell? ⟨p,2,none⟩=some (.slice A2 n2 k2)∧W.cell? ⟨p,3,none⟩=some (.slice A3 n3 k3)∧W.cell? ⟨p,4,none⟩=some (.slice A4 n4 k4)∧W.cell? ⟨p,5,none⟩=some (.slice A5 n5 k5)∧W.cell? ⟨p,6,none⟩=some (.slice A6 n6 k6)∧W.cell? ⟨p,7,none⟩=some (.slice A7 n7 k7)∧W.cell? ⟨p,8,none⟩=some (.slice A8 n8 k8))∧(W.cell? ⟨q,0,none⟩=some (.string nm)∧W.cell? ⟨q,1,none⟩=some (.slice T1 m1 j1)∧W.cell? ⟨q,2,none⟩=some (.slice T2 m2 j2)∧W.cell? ⟨q,3,none⟩=some (.slice T3 m3 j3)∧W.cell? ⟨q,4,none⟩=some (.slice T4 m4 j4)∧W.cell? ⟨q,5,none⟩=some (.slice T5 m5 j5)))∧Below W0.heap.size W0 W∧ChMk W W.heap.size (.slice T1 m1 j1) (.slice T2 m2 j2) (.slice T3 m3 j3) (.slice T4 m4 j4) (.slice T5 m5 j5) c∧FlatM twC 2 45 markS W5.heap.size W (.slice X1 x1 y1) (was.map scP)∧FlatM twC 2 45 markS w6.heap.size W (.slice X2 x2 y2) (l.map scP)∧FlatM twC 2 47 markA w7.heap.size W (.slice X3 x3 y3) (a.map atP)):=Lib.hid fun W hW=>by
     have h5:=hb58.trans (hW.mono hb58.size);obtain⟨g1,g2,g3⟩:=HQ.out W h5;exact⟨⟨(HC.out W g2).1,g1⟩,g2,g3,hk6.below hW,hk7.below hW,ht8.below hW⟩
    clear hb8 hb58 hk6 hk7 ht8 HT6' HT7 HB7 HB6
    go_wp2_with fail
    refine wp_region_held_drew (S:=(fun W=>(W.cell? ⟨p,0,none⟩=some (.string nm)∧W.cell? ⟨p,1,none⟩=some (.slice A1 n1 k1)∧W.cell? ⟨p,2,none⟩=some (.slice A2 n2 k2)∧W.cell? ⟨p,3,none⟩=some (.slice A3 n3 k3)∧W.cell? ⟨p,4,none⟩=some (.slice A4 n4 k4)∧W.cell? ⟨p,5,none⟩=some (.slice A5 n5 k5)∧W.cell? ⟨p,6,none⟩=some (.slice A6 n6 k6)∧W.cell? ⟨p,7,none⟩=some (.slice A7 n7 k7)∧W.cell? ⟨p,8,none⟩=some (.slice A8 n8 k8))∧(W.cell? ⟨q,0,none⟩=some (.string nm)∧W.cell? ⟨q,1,none⟩=some (.slice T1 m1 j1)∧W.cell? ⟨q,2,none⟩=some (.slice T2 m2 j2)∧W.cell? ⟨q,3,none⟩=some (.slice T3 m3 j3)∧W.cell? ⟨q,4,none⟩=some (.slice T4 m4 j4)∧W.cell? ⟨q,5,none⟩=some (.slice T5 m5 j5)))) (by kernel_rfl) ?_ (fun hHeld0=>?_)
    ·(try dsimp only)
     first|exact (HK.out _ HN40.out).1|exact (HK.out _ HN37.out).1|exact (HK.out _ HN31.out).1|exact (HK.out _ HN25.out).1|exact (HK.out _ HN19.out).1|exact (HK.out _ HN13.out).1|exact (HK.out _ HN4.out).1|exact (HK.out _ (Below.refl _ _)).1|exact (HK.out _ (Below.refl _ _).drew).1
    refine tkH 0 36 ?_;refine tkH 1 37 ?_;refine tkH 2 38 ?_;refine tkH 3 39 ?_;refine tkH 5 41 ?_;refine tkH 6 42 ?_;refine tkH 7 43 ?_;refine tkH 8 44 ?_;refine tkH 9 45 ?_;refine tkH 10 46 ?_;refine tkH 11 47 ?_;refine tkH 12 48 ?_;refine rdyH [4] ?_;refine AllReadyH.cons (o:=⟨some 40,_,_,_,_,_⟩) rfl (fun K hK=>?_) AllReadyH.nil
    (try go_simp)
    have hbd:Below w8.heap.size w8 w8.drew:=(Below.refl _ _).drew;have HBD:=Lib.hid hbd;refine (HS.out.1 Hf.out _ _ _ _ _ ((HK.out _ HBD.out).2.2.1.reads HN.out.symm) (FlatM.flat (f:=twC) (k:=2) (fun _=>rfl) (HK.out _ HBD.out).2.2.2.1) (FlatM.flat (f:=twC) (k:=2) (fun _=>rfl) (HK.out _ HBD.out).2.2.2.2.1) (FlatM.flat (f:=twC) (k:=2) (fun _=>rfl) (HK.out _ HBD.out).2.2.2.2.2)).mono ?_;rintro e v4 ⟨rfl,hb⟩;have HN4:=Lib.hid (hbd.trans hb);clear hb hbd
    go_wp2_with fail
    refine hK.out _ _ ?_ (fun hHeld1=>?_)
    ·(try dsimp only)
     first|exact (HK.out _ HN40.out).1|exact (HK.out _ HN37.out).1|exact (HK.out _ HN31.out).1|exact (HK.out _ HN25.out).1|exact (HK.out _ HN19.out).1|exact (HK.out _ HN13.out).1|exact (HK.out _ HN4.out).1|exact (HK.out _ (Below.refl _ _)).1|exact (HK.out _ (Below.refl _ _).drew).1
    clear hK K hHeld0
    (try go_frame)
    refine rdyH [13] ?_;refine AllReadyH.cons (o:=⟨some 49,_,_,_,_,_⟩) rfl (fun K hK=>?_) AllReadyH.nil
    (try go_simp)
    refine (HS.out.2 Hf.out _ (HK.out _ HN4.out).2.1).mono ?_;rintro e v13 ⟨rfl,hb⟩;have HN13:=Lib.hid (HN4.out.trans (hb.mono HN4.out.size));clear hb
    go_wp2_with fail
    refine hK.out _ _ ?_ (fun hHeld2=>?_)
    ·(try dsimp only)
     first|exact (HK.out _ HN40.out).1|exact (HK.out _ HN37.out).1|exact (HK.out _ HN31.out).1|exact (HK.out _ HN25.out).1|exact (HK.out _ HN19.out).1|exact (HK.out _ HN13.out).1|exact (HK.out _ HN4.out).1|exact (HK.out _ (Below.refl _ _)).1|exact (HK.out _ (Below.refl _ _).drew).1
    clear hK K hHeld1
    (try go_frame)
    refine tkH 14 50 ?_;refine tkH 15 51 ?_;refine tkH 16 52 ?_;refine tkH 17 53 ?_;refine tkH 18 54 ?_;refine rdyH [19] ?_;refine AllReadyH.cons (o:=⟨some 55,_,_,_,_,_⟩) rfl (fun K hK=>?_) AllReadyH.nil
    (try go_simp)
    refine (HL.out.1 _ (HK.out _ HN13.out).2.1 _ _ _ _ _ (HK.out _ HN13.out).2.2.1).mono ?_;rintro e v19 ⟨rfl,hb⟩;have HN19:=Lib.hid (HN13.out.trans (hb.mono HN13.out.size));clear hb
    go_wp2_with fail
    refine hK.out _ _ ?_ (fun hHeld3=>?_)
    ·(try dsimp only)
     first|exact (HK.out _ HN40.out).1|exact (HK.out _ HN37.out).1|exact (HK.out _ HN31.out).1|exact (HK.out _ HN25.out).1|exact (HK.out _ HN19.out).1|exact (HK.out _ HN13.out).1|exact (HK.out _ HN4.out).1|exact (HK.out _ (Below.refl _ _)).1|exact (HK.out _ (Below.refl _ _).drew).1
    clear hK K hHeld2
    (try go_frame)
    refine tkH 20 56 ?_;refine tkH 21 57 ?_;refine tkH 22 58 ?_;refine tkH 23 59 ?_;refine tkH 24 60 ?_;refine rdyH [25] ?_;refine AllReadyH.cons (o:=⟨some 61,_,_,_,_,_⟩) rfl (fun K hK=>?_) AllReadyH.nil
    (try go_simp)
    refine (HL.out.2.1 _ (HK.out _ HN19.out).2.1 _ _ (HK.out _ HN19.out).2.2.2.1).mono ?_;rintro e v25 ⟨rfl,hb⟩;have HN25:=Lib.hid (HN19.out.trans (hb.mono HN19.out.size));clear hb
    go_wp2_with fail
    refine hK.out _ _ ?_ (fun hHeld4=>?_)
    ·(try dsimp only)
     first|exact (HK.out _ HN40.out).1|exact (HK.out _ HN37.out).1|exact (HK.out _ HN31.out).1|exact (HK.out _ HN25.out).1|exact (HK.out _ HN19.out).1|exact (HK.out _ HN13.out).1|exact (HK.out _ HN4.out).1|exact (HK.out _ (Below.refl _ _)).1|exact (HK.out _ (Below.refl _ _).drew).1
    clear hK K hHeld3
    (try go_frame)
    refine tkH 26 62 ?_;refine tkH 27 63 ?_;refine tkH 28 64 ?_;refine tkH 29 65 ?_;refine tkH 30 66 ?_;refine rdyH [31] ?_;refine AllReadyH.cons (o:=⟨some 67,_,_,_,_,_⟩) rfl (fun K hK=>?_) AllReadyH.nil
    (try go_simp)
    refine (HL.out.2.2.1 _ (HK.out _ HN25.out).2.1 _ _ (HK.out _ HN25.out).2.2.2.2.1).mono ?_;rintro e v31 ⟨rfl,hb⟩;have HN31:=Lib.hid (HN25.out.trans (hb.mono HN25.out.size));clear hb
    go_wp2_with fail
    refine hK.out _ _ ?_ (fun hHeld5=>?_)
    ·(try dsimp only)
     first|exact (HK.out _ HN40.out).1|exact (HK.out _ HN37.out).1|exact (HK.out _ HN31.out).1|exact (HK.out _ HN25.out).1|exact (HK.out _ HN19.out).1|exact (HK.out _ HN13.out).1|exact (HK.out _ HN4.out).1|exact (HK.out _ (Below.refl _ _)).1|exact (HK.out _ (Below.refl _ _).drew).1
    clear hK K hHeld4
    (try go_frame)
    refine tkH 32 68 ?_;refine tkH 33 69 ?_;refine tkH 34 70 ?_;refine tkH 35 71 ?_;refine tkH 36 72 ?_;refine rdyH [37] ?_;refine AllReadyH.cons (o:=⟨some 73,_,_,_,_,_⟩) rfl (fun K hK=>?_) AllReadyH.nil
    (try go_simp)
    refine (HL.out.2.2.2 _ (HK.out _ HN31.out).2.1 _ _ (HK.out _ HN31.out).2.2.2.2.2).mono ?_;rintro e v37 ⟨rfl,hb⟩;have HN37:=Lib.hid (HN31.out.trans (hb.mono HN31.out.size));clear hb
    go_wp2_with fail
    refine hK.out _ _ ?_ (fun hHeld6=>?_)
    ·(try dsimp only)
     first|exact (HK.out _ HN40.out).1|exact (HK.out _ HN37.out).1|exact (HK.out _ HN31.out).1|exact (HK.out _ HN25.out).1|exact (HK.out _ HN19.out).1|exact (HK.out _ HN13.out).1|exact (HK.out _ HN4.out).1|exact (HK.out _ (Below.refl _ _)).1|exact (HK.out _ (Below.refl _ _).drew).1
    clear hK K hHeld5
    (try go_frame)
    refine tkH 38 74 ?_;refine tkH 39 75 ?_;refine rdyH [40] ?_;refine AllReadyH.cons (o:=⟨some 76,_,_,_,_,_⟩) rfl (fun K hK=>?_) AllReadyH.nil
    (try go_simp)
    refine (HG.out.2.2.2 _ (HK.out _ HN37.out).2.1).mono ?_;rintro e v40 ⟨rfl,hb⟩;have HN40:=Lib.hid (HN37.out.trans (hb.mono HN37.out.size));clear hb
    go_wp2_with fail
    refine hK.out _ _ ?_ (fun hHeld7=>?_)
    ·(try dsimp only)
     first|exact (HK.out _ HN40.out).1|exact (HK.out _ HN37.out).1|exact (HK.out _ HN31.out).1|exact (HK.out _ HN25.out).1|exact (HK.out _ HN19.out).1|exact (HK.out _ HN13.out).1|exact (HK.out _ HN4.out).1|exact (HK.out _ (Below.refl _ _)).1|exact (HK.out _ (Below.refl _ _).drew).1
    clear hK K hHeld6
    (try go_frame)
    refine tkH 41 77 ?_;refine tkH 42 2 ?_;refine wpAnyH_done (by kernel_rfl) ?_ _;go_wp2
    go_ret
    exact⟨rfl,(HC.out _ (HK.out _ HN40.out).2.1).2⟩
  ·go_wp2_with fail
   refine (HG.out.2.2.2 w2 HB2.out).mono ?_;rintro e w4 ⟨rfl,hb4⟩
   go_wp2_with fail
   go_ret
   exact⟨rfl,(HC.out w4 (HB2.out.trans (hb4.mono HB2.out.size))).2⟩
 ·clear hgb hb1
  go_wp2_with fail
  refine (HG.out.2.2.2 w1 HB1.out).mono ?_;rintro e w4 ⟨rfl,hb4⟩
  go_wp2_with fail
  go_ret
  exact⟨rfl,(HC.out w4 (HB1.out.trans (hb4.mono HB1.out.size))).2⟩
end Go.Proofs.YtkdknllcllhpgaaGreatDoor
