/- part 18 -/
import Derived.Test.YtkkebmciiiajeaaGreatDoorK0
import Derived.Test.YtkkebmciiiajeaaGreatDoorK16
import Derived.Test.YtkkebmciiiajeaaGreatDoorK17
set_option linter.unusedSimpArgs false
set_option linter.unusedVariables false
set_option maxHeartbeats 16000000
set_option maxRecDepth 100000
namespace Go.Proofs.YtkkebmciiiajeaaGreatDoor
open Go.RowKit Go.Bd
theorem blocks_count:∀l:List Ln,(blocksOf l).length≤l.length
 | []=>Nat.le_refl _
 | x::rest=>by
  have h1:=step_one x rest;have h2:=blocks_count (rest.drop (stepR x rest).1);rw[blocksOf_cons,List.length_append,List.length_cons];rw[List.length_drop] at h2;omega
termination_by l=>l.length
decreasing_by simp;omega
theorem diags_count:∀l:List Ln,(diagsOf l).length≤3*wtX l
 | []=>Nat.zero_le _
 | x::rest=>by
  have h1:=step_ds x rest;have h2:=diags_count (rest.drop (stepR x rest).1);have h3:=wtX_split rest (stepR x rest).1;rw[diagsOf_cons,List.length_append,wtX];omega
termination_by l=>l.length
decreasing_by simp;omega
def firstB:List Bl→Bool
 | []=>true
 | b::_=>!opensB b
theorem firstD_eq (name:ByteArray) (bs:List Bl):firstD name bs=if firstB bs then [⟨name,1,13,⟨#[]⟩⟩] else []:=by
 cases bs with
 | nil=>rfl
 | cons b l =>
  show (if opensB b then [] else _)=if (!opensB b)=true then _ else _
  cases opensB b<;>rfl
theorem rowD_snoc (l:List Dg) (d:Dg):rowD (l++[d])=rowD l++dgCells d:=by rw[rowD_append];show _++(dgCells d++[])=_;rw[List.append_nil]
theorem ch_zero (w:World):(zeroValue 32).run Tryz.prog w=.ok (.agg #[.string ⟨#[]⟩,.slice none 0 0,.slice none 0 0,.slice none 0 0,.slice none 0 0,.slice none 0 0]) w:=by kernel_rfl
theorem dgs_under:Tryz.prog.underlying 29=some (.slice tDg):=by kernel_rfl
theorem at_under:Tryz.prog.underlying 23=some (.slice tAt):=by kernel_rfl
theorem row_news {w:World}{b sz n c:Nat}{t:TypeId}{A:Option Addr}{xs:List Value} (h:w.ownsRow b t sz (.slice A n c) n xs) (hn:n=0→sz*n=0→xs=[]):∀(j:Nat) u,xs[j]? = some u→∃ad,A=some ad∧w.cell? (ad.add j)=some u:=fun j u hu=>by
 rcases h.2 with ⟨h1,h2⟩|⟨g,cap,cur,h1,_⟩
 ·subst h2;have:=h.1
  rw[Nat.zero_mul] at this;rw[List.length_eq_zero_iff.1 this] at hu;cases hu
 ·injection h1 with h1 _ _
  subst h1;exact⟨_,rfl,h.cells (g:=g) rfl j u hu⟩
theorem rowD_one:∀{l:List Dg},∀u∈rowD l,u.oneCell'=true
 | [],u,h=>by cases h
 | d::l,u,h=>by
  rw[rowD] at h
  rcases List.mem_append.1 h with h|h
  ·simp only[dgCells,List.mem_cons,List.not_mem_nil,or_false] at h
   rcases h with rfl|rfl|rfl|rfl<;>rfl
  ·exact rowD_one u h
theorem chapter_any {w:World}{S T:Nat→Prop}{sv av:Value}{src:List Sc}{attrs:List At} (hsc:ScS w S sv src) (hat:AtS w T av attrs) (hS:∀k,S k→k<w.heap.size) (hT:∀k,T k→k<w.heap.size) (hsn:src.length≤1000000000) (han:attrs.length≤1000000000)
  (hz:∀s∈src,s.text.size≤99999) (haz:∀a∈attrs,a.name.size≤100000∧a.value.size≤100000) {m:Int} (hg:Glob m w) (h3:3≤w.heap.size) (name:ByteArray) (hnz:name.size≤100000) (hwt:wtX (readS src attrs name).lines≤100000000) :
  Calls Tryz.prog 7 #[sv,av,.string name] w fun e w'=>∃cv,e=.returned cv∧ChAt w' w'.heap.size cv (chapM src attrs name)∧Below w.heap.size w w':=by
 have hzc:=ch_zero;have hlm:=readS_lm hz attrs name;have hB0:=(Below.refl w.heap.size w).alloc (Nat.le_refl _) (.cells #[.string ⟨#[]⟩,.slice none 0 0,.slice none 0 0,.slice none 0 0,.slice none 0 0,.slice none 0 0] 32);have hX0:=Holds.new w 32 #[.string ⟨#[]⟩,.slice none 0 0,.slice none 0 0,.slice none 0 0,.slice none 0 0,.slice none 0 0];obtain⟨W0,hW0⟩:∃W0,w.alloc (.cells #[.string ⟨#[]⟩,.slice none 0 0,.slice none 0 0,.slice none 0 0,.slice none 0 0,.slice none 0 0] 32)=W0:=⟨_,rfl⟩;rw[hW0] at hB0 hX0;have hg0:Glob m W0:=hg.chg (Chg.below hB0 (fun _=>False)) (fun _ h=>h.elim);have hsc0:ScS W0 S sv src:=TwoS.below hsc hB0;have hat0:AtS W0 T av attrs:=TwoS.below hat hB0;have hRd:=aread_any hsc0 hat0 (fun k hk=>Nat.lt_of_lt_of_le (hS k hk) hB0.size) (fun k hk=>Nat.lt_of_lt_of_le (hT k hk) hB0.size) hsn han hz haz hg0 (by have:=hB0.size;omega) name hnz;have hch:chapM src attrs name=chapR (readS src attrs name) (firstA attrs).attrs name:=rfl;obtain⟨r,hr⟩:∃r,readS src attrs name=r:=⟨_,rfl⟩;rw[hr] at hRd hch hlm hwt;obtain⟨q,hq⟩:∃q,w.heap.size=q:=⟨_,rfl⟩;have HH:=hidH8 hRd hat hT hg0 haz hch hB0 hX0;have HW:=hidH2 hW0 hq;clear hsc hat hS hT hz haz hg hsc0 hat0 hRd hr hch hB0 hX0 hg0
 go_enter Tryz.func7,Tryz.ntmps7
 go_wp2_with fail
 (try rw[HW.out.1])
 clear hW0 hq hzc;refine HH.out.1.mono ?_;rintro e W1 ⟨lv,dv,fv,kv,rfl,hl,hd,hf,hk,hb1⟩;obtain⟨Al,cl,hlv,_⟩:=own_rowL hl;obtain⟨Ad,cd,hdv,_⟩:=own_rowL hd;obtain⟨Af,cf,hfv,_⟩:=own_rowL hf;obtain⟨Ak,ck,hkv,_⟩:=own_rowL hk;subst hlv;subst hdv;subst hfv;subst hkv;have hP:=bparse_any (LinesAt.own hl rfl (S:=fun k=>k<W1.heap.size) (fun k hk=>(own_lt hl hk).2)) (fun _ h=>h) (HH.out.2.2.2.1.chg (Chg.below hb1 (fun _=>False)) (fun _ h=>h.elim)) hwt (by omega);have H1:=hidH5 hP hd hf hk hb1;clear hP hd hf hk hb1 hl;obtain⟨nl,hnl⟩:∃nl,r.lines.length=nl:=⟨_,rfl⟩;obtain⟨nd,hnd⟩:∃nd,r.diags.length=nd:=⟨_,rfl⟩;obtain⟨nf,hnf⟩:∃nf,r.files.length=nf:=⟨_,rfl⟩;obtain⟨nk,hnk⟩:∃nk,(sortN r.asked).length=nk:=⟨_,rfl⟩;rw[hnl] at H1;rw[hnd] at H1;rw[hnf] at H1;rw[hnk] at H1;rw[hnl,hnd,hnf,hnk];have HN:=hidH4 hnl hnd hnf hnk;have hlm2:nl≤16384∧nd≤32769∧nf≤16385∧nk≤1638416384:=by
  rw[←hnl,←hnd,←hnf,←hnk];unfold sortN;rw[List.length_map,List.length_mergeSort,List.length_map];exact hlm
 clear hnl hnd hnf hnk hlm
 go_wp2_with fail
 refine H1.out.1.mono ?_;rintro e W2 ⟨O,F,rb,bv,dv2,rfl,hR,hO,hF,hb2⟩;obtain⟨Ab,cb,hbv⟩:=hR.bform;obtain⟨Ae,ce,hdv2⟩:=hR.dform;subst hbv;subst hdv2;have hbc:=blocks_count r.lines;have hdc:=diags_count r.lines;rw[HN.out.1] at hbc;obtain⟨bs,hbs⟩:∃bs,blocksOf r.lines=bs:=⟨_,rfl⟩;obtain⟨es,hes⟩:∃es,diagsOf r.lines=es:=⟨_,rfl⟩;rw[hbs] at hR hbc;rw[hes] at hR hdc;rw[hbs,hes];obtain⟨nb,hnb⟩:∃nb,bs.length=nb:=⟨_,rfl⟩;obtain⟨ne,hne⟩:∃ne,es.length=ne:=⟨_,rfl⟩;rw[hnb] at hR hbc;rw[hne] at hR hdc;rw[hnb,hne];have hblk:∀W,Below W2.heap.size W2 W→∀(k:Nat) x,bs[k]? = some x→∃g sA sc rA rc,Ab=some ⟨g,0,none⟩∧Forest W (· < W2.heap.size) (.slice sA x.spans.length sc) x.spans ∧
   W.cell? ⟨g,k*9,none⟩=some (.int .u8 (x.kind:Int))∧W.cell? ⟨g,k*9+1,none⟩=some (.int .i64 (x.level:Int))∧W.cell? ⟨g,k*9+2,none⟩=some (.bool x.ordered)∧W.cell? ⟨g,k*9+3,none⟩=some (.string x.label)∧W.cell? ⟨g,k*9+4,none⟩=some (.string x.text) ∧
   W.cell? ⟨g,k*9+5,none⟩=some (.slice sA x.spans.length sc)∧W.cell? ⟨g,k*9+6,none⟩=some (.slice rA x.rows.length rc)∧W.cell? ⟨g,k*9+7,none⟩=some (.string x.file)∧W.cell? ⟨g,k*9+8,none⟩=some (.int .i64 x.line):=fun W hW k x hx=>by
  obtain⟨g,sA,sc,rA,rc,h1,h2,h3,_,c0,c1,c2,c3,c4,c5,c6,c7,c8⟩:=hR.blk_at hx;have hgl:=hR.ltO g h2;exact⟨g,sA,sc,rA,rc,h1,h3.chg (Chg.below hW (fun _=>False)) (fun k hk=>hR.ltF k hk) (fun _ _ h=>h),(hW.cell (p:=⟨g,k*9,none⟩) hgl).trans c0,(hW.cell (p:=⟨g,k*9+1,none⟩) hgl).trans c1,(hW.cell (p:=⟨g,k*9+2,none⟩) hgl).trans c2,(hW.cell (p:=⟨g,k*9+3,none⟩) hgl).trans c3,(hW.cell (p:=⟨g,k*9+4,none⟩) hgl).trans c4,(hW.cell (p:=⟨g,k*9+5,none⟩) hgl).trans c5,(hW.cell (p:=⟨g,k*9+6,none⟩) hgl).trans c6,(hW.cell (p:=⟨g,k*9+7,none⟩) hgl).trans c7,(hW.cell (p:=⟨g,k*9+8,none⟩) hgl).trans c8⟩
 have hend:∀(W:World) (S:Nat→Prop),Chg W2 W S→(∀k,S k→k<W1.heap.size∨W2.heap.size≤k)→BlocksAt W W.heap.size (.slice Ab nb cb) bs:=fun W S hW hS=>by
  obtain⟨kvs,hkl,hbrow,htrees⟩:=hR.bl;rw[←hnb] at hbrow ⊢;refine BlocksAt.own (hW.owns hbrow (fun k hk hs=>?_)) hkl (fun j x kv hx hk=>?_) (Nat.le_refl _)
  ·have h1:=(hR.oB k (by rw[←hnb];exact hk)).1;have h2:=hO k h1;have h3:=hR.ltO k h1
   rcases hS k hs with h|h<;>omega
  ·exact TreesAt.chg (F:=F) (G:=(· < W.heap.size)) htrees hW (fun k hk=>Nat.lt_of_lt_of_le (hR.ltF k hk) hW.size) (fun k hk hs=>by have h2:=hF k hk;have h3:=hR.ltF k hk;rcases hS k hs with h|h<;>omega) j x kv hx hk
 have hdrow:W2.ownsRow 0 tDg 4 (.slice Ae ne ce) ne (rowD es):=by have h:=hR.dg;rw[hne] at h;exact h
 have hb12:Below w.heap.size w W2:=by
  have h1:=HH.out.2.2.2.2.2.2.1;have h2:=h1.trans (H1.out.2.2.2.2.mono h1.size);exact h2.trans (hb2.mono h2.size)
 obtain⟨C,hC⟩:∃C,W2.heap.size=C:=⟨_,rfl⟩;have hX3:=Holds.new W2 32 #[.string name,.slice Ab nb cb,.slice none 0 0,.slice Af nf cf,.slice none 0 0,.slice none 0 0];have hB3:=(Below.refl W2.heap.size W2).alloc (Nat.le_refl _) (.cells #[.string name,.slice Ab nb cb,.slice none 0 0,.slice Af nf cf,.slice none 0 0,.slice none 0 0] 32);have hs3:(W2.alloc (.cells #[.string name,.slice Ab nb cb,.slice none 0 0,.slice Af nf cf,.slice none 0 0,.slice none 0 0] 32)).heap.size=C+1:=by rw[World.size_alloc,hC]
 obtain⟨W3,hW3⟩:∃W3,W2.alloc (.cells #[.string name,.slice Ab nb cb,.slice none 0 0,.slice Af nf cf,.slice none 0 0,.slice none 0 0] 32)=W3:=⟨_,rfl⟩;rw[hW3] at hX3 hB3 hs3;rw[hC] at hX3 hB3;have hch3:ChR W3 C name (.slice Ab nb cb) (.slice Af nf cf) (.slice none 0 0) (.slice none 0 0) (.slice none 0 0) [] [] []:=⟨hX3,own_nil _ _ _ _,own_nil _ _ _ _,own_nil _ _ _ _,(fun k hk=>by cases hk),(fun k hk=>by cases hk),(fun k hk=>by cases hk)⟩;have hd3:W3.ownsRow 0 tDg 4 (.slice Ad nd cd) nd (rowD r.diags):=by
  have h1:=(Chg.below hb2 (fun _=>False)).owns H1.out.2.1 (fun _ _ h=>h);exact (Chg.below (hC ▸ hB3) (fun _=>False)).owns (own_up h1 (fun k _=>Nat.zero_le k)) (fun _ _ h=>h)
 obtain⟨i0,hi0,hz0,hz1,hz2⟩:=info_parts diagA_info;have HI:=hidH4 hi0 hz0 hz1 hz2;have H2:=hidH10 hblk hend hdrow hb12 hbs hes hnb hne hb2 hC;have H3:=hidH5 hch3 hd3 hB3 hs3 (row_news hd3 (fun h _=>List.length_eq_zero_iff.1 (by rw[rowD_length,HN.out.2.1,h])));have hc2:=hX3.cell 2;simp at hc2;have HW3:=hidH2 hW3 hC;clear hW3 hR hO hF hb2 hblk hend hdrow hb12 hbs hes hnb hne hC hX3 hB3 hs3 hch3 hd3 hi0 hz0 hz1 hz2
 go_upto_region 4 with fail
 (try rw[HW3.out.1])
 (try rw[HW3.out.2])
 go_upto_region 5 with (at_builtin;refine wpList_append_all (by rfl) _ _ _ (by rfl) (C+1) 51 i0 _ 4 48 dgs_under HI.out.1 HI.out.2.1 HI.out.2.2.1 HI.out.2.2.2 rfl (by omega) (.slice none 0 0) 0 [] (by rfl) (own_nil _ _ _ _) Ad nd cd (rowD r.diags) (by rfl) (by rw[rowD_length,HN.out.2.1]) H3.out.2.2.2.2 (fun u hu=>rowD_one u hu) nd (Nat.zero_add nd) (rowD r.diags) (by rfl) (by unfold maxLen;omega) (by omega) (by rw[H3.out.2.2.2.1];exact Nat.le_refl _) ?_;intro A4 c4 w4 ho4 hg4 hat4;have hC4:Chg W3 w4 (fun k=>(Value.slice none 0 0).ownBlock=some k):=(Chg.refl W3 _).trans (Chg.grown hg4) (fun _ _ h=>h.symm);have hh4:=hC4.holds (fun e=>by cases e) H3.out.1.hold;have k4:=hh4.cell 2;have f4:=hh4.free 2;simp at k4;have H4:=hidH3 hC4 ho4 hat4;clear hC4 ho4 hat4 hg4 hh4)
 obtain⟨W5,hW5⟩:∃W5,w4.setCell ⟨C,2,none⟩ (.slice A4 nd c4)=W5:=⟨_,rfl⟩;have hch5:=ChR.set_d (ds':=r.diags) H3.out.1 H4.out.1 (by rw[HN.out.2.1];exact H4.out.2.1) (fun k hk=>(H4.out.2.2 k hk).imp id (fun e=>Nat.le_of_eq e.symm));rw[hW5] at hch5;have hB5:Below C W2 W5:=H3.out.2.2.1.trans hch5.2;have hs5:C+1≤W5.heap.size:=Nat.le_trans (Nat.le_of_eq H3.out.2.2.2.1.symm) hch5.2.size;have he5:W5.ownsRow 0 tDg 4 (.slice Ae ne ce) ne (rowD es):=(Chg.below (H2.out.2.2.2.2.2.2.2.2.2 ▸ hB5) (fun _=>False)).owns H2.out.2.2.1 (fun _ _ h=>h);have hc2:=hch5.1.hold.cell 2;simp at hc2;have H5:=hidH4 hch5.1 hB5 hs5 (row_news he5 (fun h _=>List.length_eq_zero_iff.1 (by rw[rowD_length,H2.out.2.2.2.2.2.2.2.1,h])));have HW5:=Lib.hid hW5;clear hch5 hB5 hs5 he5 k4 f4
 go_upto_region 6 with (at_builtin;refine wpList_append_all (by rfl) _ _ _ (by rfl) (C+1) 51 i0 _ 4 48 dgs_under HI.out.1 HI.out.2.1 HI.out.2.2.1 HI.out.2.2.2 rfl (by omega) (.slice A4 nd c4) nd (rowD r.diags) (by rfl) (HN.out.2.1 ▸ H5.out.1.d) Ae ne ce (rowD es) (by rfl) (by rw[rowD_length,H2.out.2.2.2.2.2.2.2.1]) H5.out.2.2.2 (fun u hu=>rowD_one u hu) (nd+ne) rfl (rowD (r.diags++es)) (by rw[rowD_append]) (by unfold maxLen;omega) (by omega) H5.out.2.2.1 ?_;intro A6 c6 w6 ho6 hg6 hat6;have hC6:Chg W5 w6 (fun k=>(Value.slice A4 nd c4).ownBlock=some k):=(Chg.refl W5 _).trans (Chg.grown hg6) (fun _ _ h=>h.symm);have hh6:=hC6.holds (fun e=>by have h1:=(own_lt H5.out.1.d e).1;omega) H5.out.1.hold;have k6:=hh6.cell 2;have f6:=hh6.free 2;simp at k6;have H6:=hidH3 hC6 ho6 hat6;clear hC6 ho6 hat6 hg6 hh6)
 obtain⟨W7,hW7⟩:∃W7,w6.setCell ⟨C,2,none⟩ (.slice A6 (nd+ne) c6)=W7:=⟨_,rfl⟩;have hdl:(r.diags++es).length=nd+ne:=by rw[List.length_append,HN.out.2.1,H2.out.2.2.2.2.2.2.2.1]
 have hch7:=ChR.set_d (ds':=r.diags++es) H5.out.1 H6.out.1 (by rw[hdl];exact H6.out.2.1) (fun k hk=>(H6.out.2.2 k hk).imp id (fun e=>Nat.le_of_eq e.symm));rw[hW7] at hch7;have hB7:Below C W2 W7:=H5.out.2.1.trans hch7.2;have hs7:C+1≤W7.heap.size:=Nat.le_trans H5.out.2.2.1 hch7.2.size;have hB72:Below W2.heap.size W2 W7:=by rw[H2.out.2.2.2.2.2.2.2.2.2];exact hB7
 obtain⟨ds0,hds0⟩:∃ds0,r.diags++es=ds0:=⟨_,rfl⟩;obtain⟨n0,hn0⟩:∃n0,nd+ne=n0:=⟨_,rfl⟩;have hn0b:n0≤310000000:=by omega
 rw[hds0,hn0] at hch7;rw[hds0,hn0] at hdl;rw[hn0] at hW7;rw[hn0];have H7:=hidH6 hch7.1 hB7 hs7 hB72 hds0 hdl;have HW7:=Lib.hid hW7;clear hch7 hB7 hs7 hB72 hds0 hdl f6 k6 hc2 hn0 H6 H5 H4 H3 HW5 HW3 hW5
 (try rw[HW7.out])
 clear hW7
 go_cut [57] (fun s57 wx=>s57=.bool (firstB bs)∧Hid (Below W7.heap.size W7 wx))
 case first =>
  obtain hb|⟨x,rest,hb⟩:bs=[]∨∃x rest,bs=x::rest:=by
   cases bs with
   | nil=>exact .inl rfl
   | cons x l=>exact .inr ⟨x,l,rfl⟩
  ·have hnb0:nb=0:=by rw[←H2.out.2.2.2.2.2.2.1,hb];rfl
   subst hnb0;have HB:=Lib.hid hb;clear hb
   go_wp2_with fail
   go_meet
   case rel=>exact⟨by rw[HB.out];rfl,Lib.hid (Below.refl _ _)⟩
  ·have hnb1:1≤nb:=by rw[←H2.out.2.2.2.2.2.2.1,hb];simp
   have hfb:firstB bs=!opensB x:=by rw[hb];rfl
   obtain⟨g,sA,sc,rA,rc,hAb,hfo,c0,c1,c2,c3,c4,c5,c6,c7,c8⟩:=H2.out.1 W7 H7.out.2.2.2.1 0 x (by rw[hb];rfl);subst hAb;simp only[Nat.zero_mul,Nat.zero_add] at c0 c1 c2 c3 c4 c5 c6 c7 c8;have ho:=opens_any x (.slice sA x.spans.length sc,.slice rA x.rows.length rc) W7;unfold blCells at ho;have HO:=hidH2 ho hfb;have hi1:¬nb=0:=by omega
   have hi2:(0:Int)<(nb:Int):=by omega
   clear ho hfb hfo hb
   go_wp2_with (go_at_call 18;refine HO.out.1.mono ?_;rintro e w8 ⟨rfl,hb8⟩)
   go_meet
   case rel =>
    have e:((nb:Int)==0)=false:=by simp;omega
    exact⟨by rw[HO.out.2,e,Bool.false_or],Lib.hid hb8⟩
 case rest =>
  obtain⟨h57,HB8⟩:=hcut;subst h57;have hch8:=H7.out.1.below HB8.out;have hB8:Below C W2 wc:=H7.out.2.1.trans (HB8.out.mono (by have:=H7.out.2.2.1;omega));have hs8:C+1≤wc.heap.size:=Nat.le_trans H7.out.2.2.1 HB8.out.size;have H8:=hidH3 hch8 hB8 hs8;clear hch8 hB8 hs8;obtain⟨fb,hfb⟩:∃fb,firstB bs=fb:=⟨_,rfl⟩;have hfd:=firstD_eq name bs;rw[hfb] at hfd ⊢;have HFB:=Lib.hid hfd;clear hfb hfd
  go_upto_if 57 with fail
  go_cut [] (fun wx=>Hid (∃A9 c9,ChR wx C name (.slice Ab nb cb) (.slice Af nf cf) (.slice A9 (ds0++firstD name bs).length c9) (.slice none 0 0) (.slice none 0 0) (ds0++firstD name bs) [] []∧Below C W2 wx∧C+1≤wx.heap.size))
  case first =>
   cases fb
   ·go_wp2_with fail
    go_meet
    case rel =>
     refine Lib.hid ⟨A6,c6,?_,H8.out.2.1,H8.out.2.2⟩;rw[HFB.out,if_neg (by decide),List.append_nil,H7.out.2.2.2.2.2];exact H8.out.1
   ·have hc2:=H8.out.1.hold.cell 2;simp at hc2;have hCl:C<wc.heap.size:=by have:=H8.out.2.2;omega
    have e2:(wc.alloc (.cells #[.string name,.int .i64 1,.int .i64 13,.string ⟨#[]⟩] 51)).cell? ⟨C,2,none⟩=some (.slice A6 n0 c6):=by rw[World.cell?_alloc_lt _ _ _ hCl];exact hc2
    have hD:wc.ownsRow (C+1) tDg 4 (.slice A6 n0 c6) n0 (rowD ds0):=by have h:=H8.out.1.d;rw[H7.out.2.2.2.2.2] at h;exact h
    have HD:=hidH2 hD hCl;clear hD
    go_wp2_with (at_builtin;refine wpList_append_lies _ rfl _ _ 29 rfl (C+1) 51 i0 _ 4 48 dgs_under HI.out.1 HI.out.2.1 HI.out.2.2.1 HI.out.2.2.2 rfl (by omega) (.slice A6 n0 c6) n0 (rowD ds0) (by rfl) (HD.out.1.alloc _) ⟨wc.heap.size,0,none⟩ 1 1 [.string name,.int .i64 1,.int .i64 13,.string ⟨#[]⟩] rfl rfl (World.news_of_block (cs:=#[.string name,.int .i64 1,.int .i64 13,.string ⟨#[]⟩]) (t:=51) (fr:=(0,0)) (heap_alloc_new wc _)) (by simp[Value.oneCell']) (by omega) (by unfold maxLen;omega) (by omega) (by simp;omega) (wc.heap.size+1) (by simp) ?_;intro g cap w9 ho9 hg9 hat9 hl9;have hC9:Chg wc w9 (fun k=>(Value.slice A6 n0 c6).ownBlock=some k):=((Chg.refl wc _).alloc _).trans (Chg.grown hg9) (fun _ _ h=>h.symm);have hh9:=hC9.holds (fun e=>by have h1:=(own_lt HD.out.1 e).1;omega) H8.out.1.hold;have k9:=hh9.cell 2;have f9:=hh9.free 2;simp at k9;have H9:=hidH4 hC9 ho9 hat9 hl9;clear hC9 ho9 hat9 hg9 hh9 hl9)
    go_meet
    case rel =>
     have hsd:=ChR.set_d (D':=.slice (some ⟨g,0,none⟩) (n0+1) cap) (ds':=ds0++[⟨name,1,13,⟨#[]⟩⟩]) H8.out.1 H9.out.1 (by
      rw[rowD_snoc,List.length_append,List.length_singleton,H7.out.2.2.2.2.2];exact H9.out.2.1) (fun k hk=>by
      have e1:g=k:=by simpa [Value.ownBlock] using hk
      rw[←e1]
      rcases H9.out.2.2.1 with h|h
      ·exact .inl h
      ·exact .inr (by omega))
     refine Lib.hid ⟨some ⟨g,0,none⟩,cap,?_,H8.out.2.1.trans hsd.2,Nat.le_trans H8.out.2.2 hsd.2.size⟩;rw[HFB.out]
     first|rw[if_pos rfl]|rw[if_pos trivial]
     rw[List.length_append,H7.out.2.2.2.2.2];exact hsd.1
  case rest =>
   obtain⟨A9,c9,h9⟩:=hcut.out;have hb9:Below W2.heap.size W2 wc:=by have:=h9.2.1;rw[H2.out.2.2.2.2.2.2.2.2.2];exact this
   obtain⟨ds1,hds1⟩:∃ds1,ds0++firstD name bs=ds1:=⟨_,rfl⟩;rw[hds1] at h9;have hds1l:ds1.length≤n0+1:=by
    rw[←hds1,List.length_append,H7.out.2.2.2.2.2,firstD_eq];split<;>simp
   obtain⟨n1,hn1⟩:∃n1,ds1.length=n1:=⟨_,rfl⟩;rw[hn1] at h9 hds1l;have H9:=hidH3 h9 hds1 hn1;clear h9 hb9 hds1 hn1 hcut HFB H8
   go_wp2_with fail
   go_loopg [67] nb (fun q i wr=>∃(k:Nat) (A9:Option Addr) (c9 n9:Nat),k+q=nb∧i=.int .i64 (k:Int)∧n9≤n1+k∧Hid (ChR wr C name (.slice Ab nb cb) (.slice Af nf cf) (.slice A9 n9 c9) (.slice none 0 0) (.slice none 0 0) (ds1++againD (bs.take k).tail) [] []∧Below C W2 wr∧C+1≤wr.heap.size∧(ds1++againD (bs.take k).tail).length=n9))
   case atStart =>
    have e:ds1++againD (bs.take 0).tail=ds1:=by unfold againD;simp
    exact⟨0,A9,c9,n1,by omega,rfl,Nat.le_refl _,Lib.hid ⟨by rw[e];exact H9.out.1.1,H9.out.1.2.1,H9.out.1.2.2,by rw[e];exact H9.out.2.2⟩⟩
   case round =>
    obtain⟨k,A9,c9,n9,hk,rfl,hn9,HR⟩:=hrel
    by_cases hlt:k<nb
    ·obtain⟨x,hx⟩:∃x,bs[k]? = some x:=⟨_,List.getElem?_eq_getElem (by have:=H2.out.2.2.2.2.2.2.1;omega)⟩;have hbw:Below W2.heap.size W2 wr:=by have h:=HR.out.2.1;rw[H2.out.2.2.2.2.2.2.2.2.2];exact h
     obtain⟨g,sA,sc,rA,rc,hAb,hfo,c0,c1,c2,c3,c4,c5,c6,c7,c8⟩:=H2.out.1 wr hbw k x hx;subst hAb;have hbl:=blocks_sm _ r.lines (Nat.le_refl _) hwt x (by rw[H2.out.2.2.2.2.1];exact List.mem_of_getElem? hx);have hPl:∀W,Below wr.heap.size wr W→Calls Tryz.prog 19 #[.slice sA x.spans.length sc] W fun e w'=>e=.returned (.string ⟨(sayL x.spans).toArray⟩)∧Below W.heap.size W w':=fun W hW=>Plain_any x.spans hbl.1.1 hbl.2 _ W (hfo.chg (Chg.below hW (fun _=>False)) (fun k hk=>by have h1:=hW.size;have h2:=hbw.size;omega) (fun _ _ h=>h))
     have htk:bs.take (k+1)=bs.take k++[x]:=by rw[List.take_add_one,hx];rfl
     have hBx:=(Below.refl wr.heap.size wr).alloc (Nat.le_refl _) (.cells #[.int .u8 (x.kind:Int),.int .i64 (x.level:Int),.bool x.ordered,.string x.label,.string x.text,.slice sA x.spans.length sc,.slice rA x.rows.length rc,.string x.file,.int .i64 x.line] 62);have hXx:=Holds.new wr 62 #[.int .u8 (x.kind:Int),.int .i64 (x.level:Int),.bool x.ordered,.string x.label,.string x.text,.slice sA x.spans.length sc,.slice rA x.rows.length rc,.string x.file,.int .i64 x.line];have hch6:=HR.out.1.below hBx;have hs6:(wr.alloc (.cells #[.int .u8 (x.kind:Int),.int .i64 (x.level:Int),.bool x.ordered,.string x.label,.string x.text,.slice sA x.spans.length sc,.slice rA x.rows.length rc,.string x.file,.int .i64 x.line] 62)).heap.size=wr.heap.size+1:=World.size_alloc _ _;have ho:=opens_any x (.slice sA x.spans.length sc,.slice rA x.rows.length rc) (wr.alloc (.cells #[.int .u8 (x.kind:Int),.int .i64 (x.level:Int),.bool x.ordered,.string x.label,.string x.text,.slice sA x.spans.length sc,.slice rA x.rows.length rc,.string x.file,.int .i64 x.line] 62));unfold blCells at ho;dsimp only at ho;have hBC:Below C W2 (wr.alloc (.cells #[.int .u8 (x.kind:Int),.int .i64 (x.level:Int),.bool x.ordered,.string x.label,.string x.text,.slice sA x.spans.length sc,.slice rA x.rows.length rc,.string x.file,.int .i64 x.line] 62)):=HR.out.2.1.alloc (by have:=HR.out.2.2.1;omega) _;obtain⟨W6,hW6⟩:∃W6,wr.alloc (.cells #[.int .u8 (x.kind:Int),.int .i64 (x.level:Int),.bool x.ordered,.string x.label,.string x.text,.slice sA x.spans.length sc,.slice rA x.rows.length rc,.string x.file,.int .i64 x.line] 62)=W6:=⟨_,rfl⟩
     obtain⟨p,hp⟩:∃p,wr.heap.size=p:=⟨_,rfl⟩;rw[hW6] at hXx hch6 hs6 ho hBC hBx;rw[hp] at hXx hs6;obtain⟨ob,hob⟩:∃ob,opensB x=ob:=⟨_,rfl⟩;rw[hob] at ho;obtain⟨tx,htx⟩:∃tx,(⟨(sayL x.spans).toArray⟩:ByteArray)=tx:=⟨_,rfl⟩;rw[htx] at hPl;have hnine:∀W,Below W6.heap.size W6 W→W.cell? ⟨p,0,none⟩=some (.int .u8 (x.kind:Int))∧W.cell? ⟨p,1,none⟩=some (.int .i64 (x.level:Int))∧W.cell? ⟨p,2,none⟩=some (.bool x.ordered)∧W.cell? ⟨p,3,none⟩=some (.string x.label)∧W.cell? ⟨p,4,none⟩=some (.string x.text)∧W.cell? ⟨p,5,none⟩=some (.slice sA x.spans.length sc)∧W.cell? ⟨p,6,none⟩=some (.slice rA x.rows.length rc)∧W.cell? ⟨p,7,none⟩=some (.string x.file)∧W.cell? ⟨p,8,none⟩=some (.int .i64 x.line):=fun W hW=>by
      have h:=hXx.below hW (by omega);have a0:=h.cell 0;have a1:=h.cell 1;have a2:=h.cell 2;have a3:=h.cell 3;have a4:=h.cell 4;have a5:=h.cell 5;have a6:=h.cell 6;have a7:=h.cell 7;have a8:=h.cell 8;simp at a0 a1 a2 a3 a4 a5 a6 a7 a8;exact⟨a0,a1,a2,a3,a4,a5,a6,a7,a8⟩
     obtain⟨q0,q1,q2,q3,q4,q5,q6,q7,q8⟩:=hnine W6 (Below.refl _ _);have HP:=hidH8 hPl ho hnine htx htk hob hBx hs6;have H6:=hidH2 hch6 hBC;have HW6:=hidH2 hW6 hp;clear hbw hfo hbl hPl htk hBx hXx hch6 hs6 ho hBC hob htx hnine hx
     by_cases hk0:k=0
     ·subst hk0;simp only[Nat.zero_mul,Nat.zero_add] at c0 c1 c2 c3 c4 c5 c6 c7 c8
      go_wp2_with fail
      (try rw[HW6.out.1])
      go_roundg (gk-1)
      case measure=>omega
      case rel =>
       refine⟨1,A9,c9,n9,by omega,by go_num,by omega,Lib.hid ?_⟩;have e:(bs.take 1).tail=(bs.take 0).tail:=by
        have h:=HP.out.2.2.2.2.1;rw[List.take_zero,List.nil_append] at h;rw[show (1:Nat)=0+1 from rfl,h];rfl
       rw[e];exact⟨H6.out.1,H6.out.2,by have:=HP.out.2.2.2.2.2.2.2;have:=HR.out.2.2.1;have:=HW6.out.2;omega,HR.out.2.2.2⟩
     ·have hki:(0:Int)<(k:Int):=by omega
      have htl:(bs.take (k+1)).tail=(bs.take k).tail++[x]:=by
       rw[HP.out.2.2.2.2.1];have hne:bs.take k≠[]:=fun e=>by have h:=congrArg List.length e;rw[List.length_take,H2.out.2.2.2.2.2.2.1] at h;simp at h;omega
       exact List.tail_append_of_ne_nil hne
      have HTL:=Lib.hid htl;clear htl;cases ob
      ·go_wp2_with (go_at_call 18;refine HP.out.2.1.mono ?_;rintro e w8 ⟨rfl,hb8⟩)
       go_roundg (gk-1)
       case measure=>omega
       case rel =>
        refine⟨k+1,A9,c9,n9,by omega,by go_num,by omega,Lib.hid ?_⟩;have e:againD (bs.take (k+1)).tail=againD (bs.take k).tail:=by
         rw[HTL.out,againD_snoc,HP.out.2.2.2.2.2.1,if_neg (by decide),List.append_nil]
        rw[e];exact⟨H6.out.1.below hb8,H6.out.2.trans (hb8.mono (by have:=HP.out.2.2.2.2.2.2.2;have:=HR.out.2.2.1;have:=HW6.out.2;omega)),by have:=HP.out.2.2.2.2.2.2.2;have:=HR.out.2.2.1;have:=HW6.out.2;have:=hb8.size;omega,HR.out.2.2.2⟩
      ·go_wp2_with (go_at_call 18;refine HP.out.2.1.mono ?_;rintro e w8 ⟨rfl,hb8⟩)
       obtain⟨ds2,hds2⟩:∃ds2,ds1++againD (bs.take k).tail=ds2:=⟨_,rfl⟩;have hn8:=HP.out.2.2.1 w8 hb8;have d5:=hn8.2.2.2.2.2.1;have d7:=hn8.2.2.2.2.2.2.2.1;have d8:=hn8.2.2.2.2.2.2.2.2;have hch8:=H6.out.1.below hb8;rw[hds2] at hch8;have hc2:=hch8.hold.cell 2;simp at hc2;have hs8:p+1≤w8.heap.size:=by have:=HP.out.2.2.2.2.2.2.2;have:=hb8.size;omega
       have hpC:C+1≤p:=by have:=HR.out.2.2.1;have:=HW6.out.2;omega
       have hb68:Below wr.heap.size wr w8:=HP.out.2.2.2.2.2.2.1.trans (hb8.mono HP.out.2.2.2.2.2.2.1.size);have hlen:ds2.length=n9:=by rw[←hds2];exact HR.out.2.2.2
       have hBC8:Below C W2 w8:=H6.out.2.trans (hb8.mono (by have:=HP.out.2.2.2.2.2.2.2;omega));have H8:=hidH5 hch8 hb68 hlen hds2 hBC8;have hnp:(Value.slice A9 n9 c9).ownBlock≠some p:=fun e=>by have h1:=(own_lt HR.out.1.d e).2;have h2:=HW6.out.2;omega
       have HNP:=Lib.hid hnp;clear hnp hn8 hch8 hb68 hlen hds2 hBC8 hb8 q0 q1 q2 q3 q4 q5 q6 q7 q8 c0 c1 c2 c3 c4 c5 c6 c7 c8 hW6
       go_upto_region 12 with fail
       refine wp_region_held_drew (S:=(fun w'=>w'.cell? ⟨p,7,none⟩=some (.string x.file)∧w'.cell? ⟨p,8,none⟩=some (.int .i64 x.line)∧w'.cell? ⟨p,5,none⟩=some (.slice sA x.spans.length sc))) (by kernel_rfl) ?_ (fun hHeld0=>?_)
       ·(try dsimp only)
        first|exact⟨d7,d8,d5⟩|exact D9|exact E9|exact G9|exact K9
       refine tkH 0 78 ?_;refine tkH 2 80 ?_;refine tkH 3 81 ?_;refine tkH 4 82 ?_;refine tkH 5 83 ?_;refine tkH 6 84 ?_;refine tkH 7 85 ?_;refine rdyH [1,8] ?_;refine AllReadyH.cons (o:=⟨some 79,_,_,_,_,_⟩) rfl (fun K hK=>?_) ?_
       ·skip
        go_simp;refine hK.out _ _ ?_ (fun hHeld1=>?_)
        ·(try dsimp only)
         first|exact⟨d7,d8,d5⟩|exact D9|exact E9|exact G9|exact K9
        clear hK K hHeld0
        (try go_frame)
        refine rdyH [8] ?_;refine AllReadyH.cons (o:=⟨some 86,_,_,_,_,_⟩) rfl (fun K hK=>?_) AllReadyH.nil;go_simp;refine (HP.out.1 _ (H8.out.2.1.trans (((Below.refl w8.heap.size w8).drew).mono H8.out.2.1.size))).mono ?_;rintro e w9 ⟨rfl,hb9⟩;have hb89:Below w8.heap.size w8 w9:=((Below.refl w8.heap.size w8).drew).trans hb9;have D9:w9.cell? ⟨p,7,none⟩=some (.string x.file)∧w9.cell? ⟨p,8,none⟩=some (.int .i64 x.line)∧w9.cell? ⟨p,5,none⟩=some (.slice sA x.spans.length sc):=⟨(hb89.cell (p:=⟨p,7,none⟩) hs8).trans d7,(hb89.cell (p:=⟨p,8,none⟩) hs8).trans d8,(hb89.cell (p:=⟨p,5,none⟩) hs8).trans d5⟩;have hch9:=H8.out.1.below hb89;have e92:=hch9.hold.cell 2;simp at e92;have hs9:p<w9.heap.size:=Nat.lt_of_lt_of_le hs8 hb89.size;have hCl:C<w9.heap.size:=by omega
        have E9:(w9.alloc (.cells #[.string x.file,.int .i64 x.line,.int .i64 13,.string tx] 51)).cell? ⟨p,7,none⟩=some (.string x.file)∧(w9.alloc (.cells #[.string x.file,.int .i64 x.line,.int .i64 13,.string tx] 51)).cell? ⟨p,8,none⟩=some (.int .i64 x.line)∧(w9.alloc (.cells #[.string x.file,.int .i64 x.line,.int .i64 13,.string tx] 51)).cell? ⟨p,5,none⟩=some (.slice sA x.spans.length sc) :=
         ⟨by rw[World.cell?_alloc_lt _ _ _ hs9];exact D9.1,by rw[World.cell?_alloc_lt _ _ _ hs9];exact D9.2.1,by rw[World.cell?_alloc_lt _ _ _ hs9];exact D9.2.2⟩
        have e93:(w9.alloc (.cells #[.string x.file,.int .i64 x.line,.int .i64 13,.string tx] 51)).cell? ⟨C,2,none⟩=some (.slice A9 n9 c9):=by rw[World.cell?_alloc_lt _ _ _ hCl];exact e92
        have H9:=hidH2 hch9 (H8.out.2.2.2.2.trans (hb89.mono (by omega)));clear hch9 hb89 hb9;refine hK.out _ _ ?_ (fun hHeld2=>?_)
        ·(try dsimp only)
         first|exact⟨d7,d8,d5⟩|exact D9|exact E9|exact G9|exact K9
        clear hK K hHeld1
        (try go_frame)
        refine tkH 9 87 ?_;refine rdyH [10] ?_;refine AllReadyH.cons (o:=⟨some 88,_,_,_,_,_⟩) rfl (fun K hK=>?_) AllReadyH.nil;go_simp;refine hK.out _ _ ?_ (fun hHeld3=>?_)
        ·(try dsimp only)
         first|exact⟨d7,d8,d5⟩|exact D9|exact E9|exact G9|exact K9
        clear hK K hHeld2
        (try go_frame)
        refine rdyH [11] ?_;refine AllReadyH.cons (o:=⟨some 89,_,_,_,_,_⟩) rfl (fun K hK=>?_) AllReadyH.nil;have hrow:w9.ownsRow (C+1) 51 4 (.slice A9 n9 c9) n9 (rowD ds2):=by have h:=H9.out.1.d;rw[H8.out.2.2.1] at h;exact h
        refine step_append_lies _ (by rfl) _ _ _ (by rfl) (C+1) 51 i0 _ 4 48 dgs_under HI.out.1 HI.out.2.1 HI.out.2.2.1 HI.out.2.2.2 rfl (by omega) (.slice A9 n9 c9) n9 (rowD ds2) (by rfl) (hrow.alloc _)
         ⟨w9.heap.size,0,none⟩ 1 1 [.string x.file,.int .i64 x.line,.int .i64 13,.string tx] (by rfl) (by rfl) (World.news_of_block (cs:=#[.string x.file,.int .i64 x.line,.int .i64 13,.string tx]) (t:=51) (fr:=(0,0)) (heap_alloc_new w9 _)) (by simp[Value.oneCell'])
         (by omega) (by unfold maxLen;omega) (by omega) (by simp;omega) (w9.heap.size+1) (by simp) ?_
        intro g2 cap w10 ho10 hg10 hat10 hl10;have hC10:Chg w9 w10 (fun k=>(Value.slice A9 n9 c9).ownBlock=some k):=((Chg.refl w9 _).alloc _).trans (Chg.grown hg10) (fun _ _ h=>h.symm);have hpr:(Value.slice A9 n9 c9).ownBlock≠some C:=fun e=>by have h1:=(own_lt hrow e).1;omega
        have hh10:=hC10.holds hpr H9.out.1.hold;have k10:=hh10.cell 2;have f10:=hh10.free 2;simp at k10;have G9:w10.cell? ⟨p,7,none⟩=some (.string x.file)∧w10.cell? ⟨p,8,none⟩=some (.int .i64 x.line)∧w10.cell? ⟨p,5,none⟩=some (.slice sA x.spans.length sc):=⟨hC10.cell (p:=⟨p,7,none⟩) HNP.out D9.1,hC10.cell (p:=⟨p,8,none⟩) HNP.out D9.2.1,hC10.cell (p:=⟨p,5,none⟩) HNP.out D9.2.2⟩;have hCp:C≠p:=by omega
        have K9:(w10.setCell ⟨C,2,none⟩ (.slice (some ⟨g2,0,none⟩) (n9+1) cap)).cell? ⟨p,7,none⟩=some (.string x.file)∧(w10.setCell ⟨C,2,none⟩ (.slice (some ⟨g2,0,none⟩) (n9+1) cap)).cell? ⟨p,8,none⟩=some (.int .i64 x.line)∧(w10.setCell ⟨C,2,none⟩ (.slice (some ⟨g2,0,none⟩) (n9+1) cap)).cell? ⟨p,5,none⟩=some (.slice sA x.spans.length sc) :=
         ⟨cell_far (g:=C) (i:=2) (j:=7) hCp _ G9.1,cell_far (g:=C) (i:=2) (j:=8) hCp _ G9.2.1,cell_far (g:=C) (i:=2) (j:=5) hCp _ G9.2.2⟩
        have H10:=hidH4 hC10 ho10 hat10 hl10;clear hC10 ho10 hat10 hg10 hl10 hh10 hrow hpr hCp;refine hK.out _ _ ?_ (fun hHeld4=>?_)
        ·(try dsimp only)
         first|exact⟨d7,d8,d5⟩|exact D9|exact E9|exact G9|exact K9
        clear hK K hHeld3
        (try go_frame)
        refine tkH 12 90 ?_;refine rdyH [13] ?_;refine AllReadyH.cons rfl (fun K hK=>?_) AllReadyH.nil;go_simp;refine hK.out _ _ ?_ (fun hHeld5=>?_)
        ·(try dsimp only)
         first|exact⟨d7,d8,d5⟩|exact D9|exact E9|exact G9|exact K9
        clear hK K hHeld4
        (try go_frame)
        refine wpAnyH_done (by kernel_rfl) ?_ _
        go_wp2_with fail
        go_roundg (gk-1)
        case measure=>omega
        case rel =>
         have hsd:=ChR.set_d (D':=.slice (some ⟨g2,0,none⟩) (n9+1) cap) (ds':=ds2++[⟨x.file,x.line,13,tx⟩]) H9.out.1 H10.out.1 (by
          rw[rowD_snoc,List.length_append,List.length_singleton,H8.out.2.2.1];exact H10.out.2.1) (fun k hk=>by
          have e1:g2=k:=by simpa [Value.ownBlock] using hk
          rw[←e1]
          rcases H10.out.2.2.1 with h|h
          ·exact .inl h
          ·exact .inr (by omega))
         have e:ds1++againD (bs.take (k+1)).tail=ds2++[⟨x.file,x.line,13,tx⟩]:=by
          rw[HTL.out,againD_snoc,HP.out.2.2.2.2.2.1]
          first|rw[if_pos rfl]|rw[if_pos trivial]
          rw[←List.append_assoc,H8.out.2.2.2.1,←HP.out.2.2.2.1];rfl
         refine⟨k+1,some ⟨g2,0,none⟩,cap,n9+1,by omega,by go_num,by omega,Lib.hid ?_⟩;rw[e];refine⟨hsd.1,H9.out.2.trans hsd.2,Nat.le_trans (by omega) hsd.2.size,?_⟩;rw[List.length_append,List.length_singleton,H8.out.2.2.1]
       refine AllReadyH.cons (o:=⟨some 86,_,_,_,_,_⟩) rfl (fun K hK=>?_) AllReadyH.nil;go_simp;refine (HP.out.1 _ (H8.out.2.1.trans (((Below.refl w8.heap.size w8).drew).mono H8.out.2.1.size))).mono ?_;rintro e w9 ⟨rfl,hb9⟩;have hb89:Below w8.heap.size w8 w9:=((Below.refl w8.heap.size w8).drew).trans hb9;have D9:w9.cell? ⟨p,7,none⟩=some (.string x.file)∧w9.cell? ⟨p,8,none⟩=some (.int .i64 x.line)∧w9.cell? ⟨p,5,none⟩=some (.slice sA x.spans.length sc):=⟨(hb89.cell (p:=⟨p,7,none⟩) hs8).trans d7,(hb89.cell (p:=⟨p,8,none⟩) hs8).trans d8,(hb89.cell (p:=⟨p,5,none⟩) hs8).trans d5⟩;have hch9:=H8.out.1.below hb89;have e92:=hch9.hold.cell 2;simp at e92;have hs9:p<w9.heap.size:=Nat.lt_of_lt_of_le hs8 hb89.size;have hCl:C<w9.heap.size:=by omega
       have E9:(w9.alloc (.cells #[.string x.file,.int .i64 x.line,.int .i64 13,.string tx] 51)).cell? ⟨p,7,none⟩=some (.string x.file)∧(w9.alloc (.cells #[.string x.file,.int .i64 x.line,.int .i64 13,.string tx] 51)).cell? ⟨p,8,none⟩=some (.int .i64 x.line)∧(w9.alloc (.cells #[.string x.file,.int .i64 x.line,.int .i64 13,.string tx] 51)).cell? ⟨p,5,none⟩=some (.slice sA x.spans.length sc) :=
        ⟨by rw[World.cell?_alloc_lt _ _ _ hs9];exact D9.1,by rw[World.cell?_alloc_lt _ _ _ hs9];exact D9.2.1,by rw[World.cell?_alloc_lt _ _ _ hs9];exact D9.2.2⟩
       have e93:(w9.alloc (.cells #[.string x.file,.int .i64 x.line,.int .i64 13,.string tx] 51)).cell? ⟨C,2,none⟩=some (.slice A9 n9 c9):=by rw[World.cell?_alloc_lt _ _ _ hCl];exact e92
       have H9:=hidH2 hch9 (H8.out.2.2.2.2.trans (hb89.mono (by omega)));clear hch9 hb89 hb9;refine hK.out _ _ ?_ (fun hHeld1=>?_)
       ·(try dsimp only)
        first|exact⟨d7,d8,d5⟩|exact D9|exact E9|exact G9|exact K9
       clear hK K hHeld0
       (try go_frame)
       refine tkH 9 87 ?_;refine rdyH [1,10] ?_;refine AllReadyH.cons (o:=⟨some 79,_,_,_,_,_⟩) rfl (fun K hK=>?_) ?_
       ·skip
        go_simp;refine hK.out _ _ ?_ (fun hHeld2=>?_)
        ·(try dsimp only)
         first|exact⟨d7,d8,d5⟩|exact D9|exact E9|exact G9|exact K9
        clear hK K hHeld1
        (try go_frame)
        refine rdyH [10] ?_;refine AllReadyH.cons (o:=⟨some 88,_,_,_,_,_⟩) rfl (fun K hK=>?_) AllReadyH.nil;go_simp;refine hK.out _ _ ?_ (fun hHeld3=>?_)
        ·(try dsimp only)
         first|exact⟨d7,d8,d5⟩|exact D9|exact E9|exact G9|exact K9
        clear hK K hHeld2
        (try go_frame)
        refine rdyH [11] ?_;refine AllReadyH.cons (o:=⟨some 89,_,_,_,_,_⟩) rfl (fun K hK=>?_) AllReadyH.nil;have hrow:w9.ownsRow (C+1) 51 4 (.slice A9 n9 c9) n9 (rowD ds2):=by have h:=H9.out.1.d;rw[H8.out.2.2.1] at h;exact h
        refine step_append_lies _ (by rfl) _ _ _ (by rfl) (C+1) 51 i0 _ 4 48 dgs_under HI.out.1 HI.out.2.1 HI.out.2.2.1 HI.out.2.2.2 rfl (by omega) (.slice A9 n9 c9) n9 (rowD ds2) (by rfl) (hrow.alloc _)
         ⟨w9.heap.size,0,none⟩ 1 1 [.string x.file,.int .i64 x.line,.int .i64 13,.string tx] (by rfl) (by rfl) (World.news_of_block (cs:=#[.string x.file,.int .i64 x.line,.int .i64 13,.string tx]) (t:=51) (fr:=(0,0)) (heap_alloc_new w9 _)) (by simp[Value.oneCell'])
         (by omega) (by unfold maxLen;omega) (by omega) (by simp;omega) (w9.heap.size+1) (by simp) ?_
        intro g2 cap w10 ho10 hg10 hat10 hl10;have hC10:Chg w9 w10 (fun k=>(Value.slice A9 n9 c9).ownBlock=some k):=((Chg.refl w9 _).alloc _).trans (Chg.grown hg10) (fun _ _ h=>h.symm);have hpr:(Value.slice A9 n9 c9).ownBlock≠some C:=fun e=>by have h1:=(own_lt hrow e).1;omega
        have hh10:=hC10.holds hpr H9.out.1.hold;have k10:=hh10.cell 2;have f10:=hh10.free 2;simp at k10;have G9:w10.cell? ⟨p,7,none⟩=some (.string x.file)∧w10.cell? ⟨p,8,none⟩=some (.int .i64 x.line)∧w10.cell? ⟨p,5,none⟩=some (.slice sA x.spans.length sc):=⟨hC10.cell (p:=⟨p,7,none⟩) HNP.out D9.1,hC10.cell (p:=⟨p,8,none⟩) HNP.out D9.2.1,hC10.cell (p:=⟨p,5,none⟩) HNP.out D9.2.2⟩;have hCp:C≠p:=by omega
        have K9:(w10.setCell ⟨C,2,none⟩ (.slice (some ⟨g2,0,none⟩) (n9+1) cap)).cell? ⟨p,7,none⟩=some (.string x.file)∧(w10.setCell ⟨C,2,none⟩ (.slice (some ⟨g2,0,none⟩) (n9+1) cap)).cell? ⟨p,8,none⟩=some (.int .i64 x.line)∧(w10.setCell ⟨C,2,none⟩ (.slice (some ⟨g2,0,none⟩) (n9+1) cap)).cell? ⟨p,5,none⟩=some (.slice sA x.spans.length sc) :=
         ⟨cell_far (g:=C) (i:=2) (j:=7) hCp _ G9.1,cell_far (g:=C) (i:=2) (j:=8) hCp _ G9.2.1,cell_far (g:=C) (i:=2) (j:=5) hCp _ G9.2.2⟩
        have H10:=hidH4 hC10 ho10 hat10 hl10;clear hC10 ho10 hat10 hg10 hl10 hh10 hrow hpr hCp;refine hK.out _ _ ?_ (fun hHeld4=>?_)
        ·(try dsimp only)
         first|exact⟨d7,d8,d5⟩|exact D9|exact E9|exact G9|exact K9
        clear hK K hHeld3
        (try go_frame)
        refine tkH 12 90 ?_;refine rdyH [13] ?_;refine AllReadyH.cons rfl (fun K hK=>?_) AllReadyH.nil;go_simp;refine hK.out _ _ ?_ (fun hHeld5=>?_)
        ·(try dsimp only)
         first|exact⟨d7,d8,d5⟩|exact D9|exact E9|exact G9|exact K9
        clear hK K hHeld4
        (try go_frame)
        refine wpAnyH_done (by kernel_rfl) ?_ _
        go_wp2_with fail
        go_roundg (gk-1)
        case measure=>omega
        case rel =>
         have hsd:=ChR.set_d (D':=.slice (some ⟨g2,0,none⟩) (n9+1) cap) (ds':=ds2++[⟨x.file,x.line,13,tx⟩]) H9.out.1 H10.out.1 (by
          rw[rowD_snoc,List.length_append,List.length_singleton,H8.out.2.2.1];exact H10.out.2.1) (fun k hk=>by
          have e1:g2=k:=by simpa [Value.ownBlock] using hk
          rw[←e1]
          rcases H10.out.2.2.1 with h|h
          ·exact .inl h
          ·exact .inr (by omega))
         have e:ds1++againD (bs.take (k+1)).tail=ds2++[⟨x.file,x.line,13,tx⟩]:=by
          rw[HTL.out,againD_snoc,HP.out.2.2.2.2.2.1]
          first|rw[if_pos rfl]|rw[if_pos trivial]
          rw[←List.append_assoc,H8.out.2.2.2.1,←HP.out.2.2.2.1];rfl
         refine⟨k+1,some ⟨g2,0,none⟩,cap,n9+1,by omega,by go_num,by omega,Lib.hid ?_⟩;rw[e];refine⟨hsd.1,H9.out.2.trans hsd.2,Nat.le_trans (by omega) hsd.2.size,?_⟩;rw[List.length_append,List.length_singleton,H8.out.2.2.1]
       refine AllReadyH.cons (o:=⟨some 88,_,_,_,_,_⟩) rfl (fun K hK=>?_) AllReadyH.nil;go_simp;refine hK.out _ _ ?_ (fun hHeld2=>?_)
       ·(try dsimp only)
        first|exact⟨d7,d8,d5⟩|exact D9|exact E9|exact G9|exact K9
       clear hK K hHeld1
       (try go_frame)
       refine rdyH [1] ?_;refine AllReadyH.cons (o:=⟨some 79,_,_,_,_,_⟩) rfl (fun K hK=>?_) AllReadyH.nil;go_simp;refine hK.out _ _ ?_ (fun hHeld3=>?_)
       ·(try dsimp only)
        first|exact⟨d7,d8,d5⟩|exact D9|exact E9|exact G9|exact K9
       clear hK K hHeld2
       (try go_frame)
       refine rdyH [11] ?_;refine AllReadyH.cons (o:=⟨some 89,_,_,_,_,_⟩) rfl (fun K hK=>?_) AllReadyH.nil;have hrow:w9.ownsRow (C+1) 51 4 (.slice A9 n9 c9) n9 (rowD ds2):=by have h:=H9.out.1.d;rw[H8.out.2.2.1] at h;exact h
       refine step_append_lies _ (by rfl) _ _ _ (by rfl) (C+1) 51 i0 _ 4 48 dgs_under HI.out.1 HI.out.2.1 HI.out.2.2.1 HI.out.2.2.2 rfl (by omega) (.slice A9 n9 c9) n9 (rowD ds2) (by rfl) (hrow.alloc _)
        ⟨w9.heap.size,0,none⟩ 1 1 [.string x.file,.int .i64 x.line,.int .i64 13,.string tx] (by rfl) (by rfl) (World.news_of_block (cs:=#[.string x.file,.int .i64 x.line,.int .i64 13,.string tx]) (t:=51) (fr:=(0,0)) (heap_alloc_new w9 _)) (by simp[Value.oneCell'])
        (by omega) (by unfold maxLen;omega) (by omega) (by simp;omega) (w9.heap.size+1) (by simp) ?_
       intro g2 cap w10 ho10 hg10 hat10 hl10;have hC10:Chg w9 w10 (fun k=>(Value.slice A9 n9 c9).ownBlock=some k):=((Chg.refl w9 _).alloc _).trans (Chg.grown hg10) (fun _ _ h=>h.symm);have hpr:(Value.slice A9 n9 c9).ownBlock≠some C:=fun e=>by have h1:=(own_lt hrow e).1;omega
       have hh10:=hC10.holds hpr H9.out.1.hold;have k10:=hh10.cell 2;have f10:=hh10.free 2;simp at k10;have G9:w10.cell? ⟨p,7,none⟩=some (.string x.file)∧w10.cell? ⟨p,8,none⟩=some (.int .i64 x.line)∧w10.cell? ⟨p,5,none⟩=some (.slice sA x.spans.length sc):=⟨hC10.cell (p:=⟨p,7,none⟩) HNP.out D9.1,hC10.cell (p:=⟨p,8,none⟩) HNP.out D9.2.1,hC10.cell (p:=⟨p,5,none⟩) HNP.out D9.2.2⟩;have hCp:C≠p:=by omega
       have K9:(w10.setCell ⟨C,2,none⟩ (.slice (some ⟨g2,0,none⟩) (n9+1) cap)).cell? ⟨p,7,none⟩=some (.string x.file)∧(w10.setCell ⟨C,2,none⟩ (.slice (some ⟨g2,0,none⟩) (n9+1) cap)).cell? ⟨p,8,none⟩=some (.int .i64 x.line)∧(w10.setCell ⟨C,2,none⟩ (.slice (some ⟨g2,0,none⟩) (n9+1) cap)).cell? ⟨p,5,none⟩=some (.slice sA x.spans.length sc) :=
        ⟨cell_far (g:=C) (i:=2) (j:=7) hCp _ G9.1,cell_far (g:=C) (i:=2) (j:=8) hCp _ G9.2.1,cell_far (g:=C) (i:=2) (j:=5) hCp _ G9.2.2⟩
       have H10:=hidH4 hC10 ho10 hat10 hl10;clear hC10 ho10 hat10 hg10 hl10 hh10 hrow hpr hCp;refine hK.out _ _ ?_ (fun hHeld4=>?_)
       ·(try dsimp only)
        first|exact⟨d7,d8,d5⟩|exact D9|exact E9|exact G9|exact K9
       clear hK K hHeld3
       (try go_frame)
       refine tkH 12 90 ?_;refine rdyH [13] ?_;refine AllReadyH.cons rfl (fun K hK=>?_) AllReadyH.nil;go_simp;refine hK.out _ _ ?_ (fun hHeld5=>?_)
       ·(try dsimp only)
        first|exact⟨d7,d8,d5⟩|exact D9|exact E9|exact G9|exact K9
       clear hK K hHeld4
       (try go_frame)
       refine wpAnyH_done (by kernel_rfl) ?_ _
       go_wp2_with fail
       go_roundg (gk-1)
       case measure=>omega
       case rel =>
        have hsd:=ChR.set_d (D':=.slice (some ⟨g2,0,none⟩) (n9+1) cap) (ds':=ds2++[⟨x.file,x.line,13,tx⟩]) H9.out.1 H10.out.1 (by
         rw[rowD_snoc,List.length_append,List.length_singleton,H8.out.2.2.1];exact H10.out.2.1) (fun k hk=>by
         have e1:g2=k:=by simpa [Value.ownBlock] using hk
         rw[←e1]
         rcases H10.out.2.2.1 with h|h
         ·exact .inl h
         ·exact .inr (by omega))
        have e:ds1++againD (bs.take (k+1)).tail=ds2++[⟨x.file,x.line,13,tx⟩]:=by
         rw[HTL.out,againD_snoc,HP.out.2.2.2.2.2.1]
         first|rw[if_pos rfl]|rw[if_pos trivial]
         rw[←List.append_assoc,H8.out.2.2.2.1,←HP.out.2.2.2.1];rfl
        refine⟨k+1,some ⟨g2,0,none⟩,cap,n9+1,by omega,by go_num,by omega,Lib.hid ?_⟩;rw[e];refine⟨hsd.1,H9.out.2.trans hsd.2,Nat.le_trans (by omega) hsd.2.size,?_⟩;rw[List.length_append,List.length_singleton,H8.out.2.2.1]
    ·obtain rfl:k=nb:=by omega
     obtain⟨wO,hwO⟩:∃x,x=wr:=⟨_,rfl⟩;subst hwO;have hC2:=H2.out.2.2.2.2.2.2.2.2.2;have hbO:Below W2.heap.size W2 wO:=by rw[hC2];exact HR.out.2.1
     have hbwO:Below w.heap.size w wO:=H2.out.2.2.2.1.trans (hbO.mono H2.out.2.2.2.1.size);have hatO:AtS wO T av attrs:=TwoS.below HH.out.2.1 hbwO;have hAl:=allowed_any hatO (fun k hk=>Nat.lt_of_lt_of_le (HH.out.2.2.1 k hk) hbwO.size) han HH.out.2.2.2.2.1;obtain⟨dsF,hdsF⟩:∃dsF,ds1++againD bs.tail=dsF:=⟨_,rfl⟩;have hbk:bs.take k=bs:=List.take_of_length_le (by rw[H2.out.2.2.2.2.2.2.1];exact Nat.le_refl _);have hRO:=HR.out;rw[hbk,hdsF] at hRO;obtain⟨ks,hks⟩:∃ks,sortN r.asked=ks:=⟨_,rfl⟩;have hkrow:W2.ownsRow 0 tTx 1 (.slice Ak nk ck) nk (rowTx ks):=by
      have h:=(Chg.below H2.out.2.2.2.2.2.2.2.2.1 (fun _=>False)).owns H1.out.2.2.2.1 (fun _ _ h=>h);rw[←hks];exact own_up h (fun k _=>Nat.zero_le k)
     have hkl:ks.length=nk:=by rw[←hks];exact HN.out.2.2.2
     have hkc:∀W,Below W2.heap.size W2 W→∀(i:Nat) n,ks[i]? = some n→∃g,Ak=some ⟨g,0,none⟩∧W.cell? ⟨g,i,none⟩=some (.string n):=fun W hW i n hn=>by
      have h:=(Chg.below hW (fun _=>False)).owns hkrow (fun _ _ h=>h);obtain⟨g,cap,e,_,_,_,h2,_⟩:=own_rowN h (by have:=(List.getElem?_eq_some_iff.1 hn).1;omega);injection e with e1 _ _
      exact⟨g,e1,h2 i (.string n) (by unfold rowTx;rw[List.getElem?_map,hn];rfl)⟩
     obtain⟨cb2,hcb2⟩:∃cb2,checkB attrs=cb2:=⟨_,rfl⟩;obtain⟨av2,hav2⟩:∃av2,(if checkB attrs then av else .slice none 0 0)=av2:=⟨_,rfl⟩;obtain⟨a2,ha2⟩:∃a2,(firstA attrs).attrs=a2:=⟨_,rfl⟩;have hat2:∀W,Below w.heap.size w W→AtS W T av2 a2:=fun W hW=>by
      rw[←hav2,←ha2];unfold firstA;dsimp only;split
      ·exact TwoS.below HH.out.2.1 hW
      ·exact TwoS.nil _ _
     have ha2l:a2.length≤1000000000:=by
      rw[←ha2];unfold firstA;dsimp only;split
      ·exact han
      ·exact Nat.zero_le _
     rw[hav2] at hAl;have HO:=hidH11 hAl hRO hbO hbwO hkc hkl hat2 ha2 hks hdsF hC2;clear hAl hRO hbO hbwO hkc hkl hat2 ha2 hks hdsF hC2 hatO hbk hkrow hav2 hcb2 hk hlt
     go_wp2_with fail
     refine HO.out.1.mono ?_;rintro e w8 ⟨rfl,hb8⟩;have h8:ChR w8 C name (.slice Ab k cb) (.slice Af nf cf) (.slice A9 n9 c9) (.slice none 0 0) (.slice none 0 0) dsF [] []∧Below C W2 w8∧C+1≤w8.heap.size:=⟨HO.out.2.1.1.below hb8,HO.out.2.1.2.1.trans (hb8.mono (by have:=HO.out.2.1.2.2.1;omega)),Nat.le_trans HO.out.2.1.2.2.1 hb8.size⟩;have H8:=Lib.hid h8;clear h8 hb8
     go_wp2_with fail
     go_loopg [96] nk (fun q i wr=>∃(j:Nat) (A10 A11:Option Addr) (c10 n10 c11 n11:Nat),j+q=nk∧i=.int .i64 (j:Int)∧n10≤j∧n11≤j∧Hid (ChR wr C name (.slice Ab k cb) (.slice Af nf cf) (.slice A9 n9 c9) (.slice A10 n10 c10) (.slice A11 n11 c11) dsF (gotA a2 (ks.take j)) (lackA a2 (ks.take j))∧Below C W2 wr∧C+1≤wr.heap.size∧(gotA a2 (ks.take j)).length=n10∧(lackA a2 (ks.take j)).length=n11))
     case atStart=>exact⟨0,none,none,0,0,0,0,by omega,rfl,Nat.le_refl _,Nat.le_refl _,Lib.hid ⟨H8.out.1,H8.out.2.1,H8.out.2.2,rfl,rfl⟩⟩
     case round =>
      obtain⟨j,A10,A11,c10,n10,c11,n11,hj,rfl,hn10,hn11,HL⟩:=hrel;have hbr:Below W2.heap.size W2 wr:=by rw[HO.out.2.2.2.2.2.2.2.2.2.2];exact HL.out.2.1
      by_cases hjt:j<nk
      ·obtain⟨nm,hnm⟩:∃nm,ks[j]? = some nm:=⟨_,List.getElem?_eq_getElem (by have:=HO.out.2.2.2.2.2.1;omega)⟩;obtain⟨g,hAk,c0⟩:=HO.out.2.2.2.2.1 wr hbr j nm hnm;subst hAk;have hbwr:Below w.heap.size w wr:=H2.out.2.2.2.1.trans (hbr.mono H2.out.2.2.2.1.size);have hG:=Get_any (HO.out.2.2.2.2.2.2.1 wr hbwr) (fun k hk=>Nat.lt_of_lt_of_le (HH.out.2.2.1 k hk) hbwr.size) ha2l nm;have htk:ks.take (j+1)=ks.take j++[nm]:=by rw[List.take_add_one,hnm];rfl
       obtain⟨i1,hi1,hy0,hy1,hy2⟩:=info_parts atA_info;obtain⟨i2,hi2,hx0,hx1,hx2⟩:=info_parts txA_info;have HI1:=hidH4 hi1 hy0 hy1 hy2;have HI2:=hidH4 hi2 hx0 hx1 hx2;have HJ:=hidH2 hbwr htk;clear hi1 hy0 hy1 hy2 hi2 hx0 hx1 hx2 hbwr htk hnm;cases hga:getA a2 nm with
       | some v =>
        rw[hga] at hG;unfold getV at hG;have HG:=hidH2 hG hga;clear hG hga
        go_wp2_with fail
        refine HG.out.1.mono ?_;rintro e w9 ⟨rfl,hb9⟩;have hch9:=HL.out.1.below hb9;have hBC9:Below C W2 w9:=HL.out.2.1.trans (hb9.mono (by have:=HL.out.2.2.1;omega));have hs9:C+1≤w9.heap.size:=Nat.le_trans HL.out.2.2.1 hb9.size;have hc4:=hch9.hold.cell 4;simp at hc4;have hCl:C<w9.heap.size:=hs9;have e4:(w9.alloc (.cells #[.string nm,.string v] 47)).cell? ⟨C,4,none⟩=some (.slice A10 n10 c10):=by rw[World.cell?_alloc_lt _ _ _ hCl];exact hc4
        have hA:w9.ownsRow (C+1) 47 2 (.slice A10 n10 c10) n10 (rowAt (gotA a2 (ks.take j))):=by have h:=hch9.a;rw[HL.out.2.2.2.1] at h;exact h
        have H9:=hidH4 hch9 hBC9 hs9 hA;clear hch9 hBC9 hs9 hA hb9
        go_wp2_with (at_builtin;refine wpList_append_lies _ rfl _ _ 23 rfl (C+1) 47 i1 _ 2 32 at_under HI1.out.1 HI1.out.2.1 HI1.out.2.2.1 HI1.out.2.2.2 rfl (by omega) (.slice A10 n10 c10) n10 (rowAt (gotA a2 (ks.take j))) (by rfl) (H9.out.2.2.2.alloc _) ⟨w9.heap.size,0,none⟩ 1 1 [.string nm,.string v] rfl rfl (World.news_of_block (cs:=#[.string nm,.string v]) (t:=47) (fr:=(0,0)) (heap_alloc_new w9 _)) (by simp[Value.oneCell']) (by omega) (by unfold maxLen;omega) (by omega) (by simp;omega) (w9.heap.size+1) (by simp) ?_;intro g2 cap w10 ho10 hg10 hat10 hl10;have hC10:Chg w9 w10 (fun k=>(Value.slice A10 n10 c10).ownBlock=some k):=((Chg.refl w9 _).alloc _).trans (Chg.grown hg10) (fun _ _ h=>h.symm);have hh10:=hC10.holds (fun e=>by have h1:=(own_lt H9.out.2.2.2 e).1;omega) H9.out.1.hold;have k10:=hh10.cell 4;have f10:=hh10.free 4;simp at k10;have H10:=hidH4 hC10 ho10 hat10 hl10;clear hC10 ho10 hat10 hg10 hh10 hl10)
        go_roundg (gk-1)
        case measure=>omega
        case rel =>
         have egot:gotA a2 (ks.take (j+1))=gotA a2 (ks.take j)++[⟨nm,v⟩]:=by rw[HJ.out.2,gotA_snoc,HG.out.2]
         have elack:lackA a2 (ks.take (j+1))=lackA a2 (ks.take j):=by rw[HJ.out.2,lackA_snoc,HG.out.2];exact List.append_nil _
         have hsd:=ChR.set_a (A':=.slice (some ⟨g2,0,none⟩) (n10+1) cap) (ats':=gotA a2 (ks.take j)++[⟨nm,v⟩]) H9.out.1 H10.out.1 (by
          rw[List.length_append,List.length_singleton,HL.out.2.2.2.1];have er:rowAt (gotA a2 (ks.take j)++[⟨nm,v⟩])=rowAt (gotA a2 (ks.take j))++[.string nm,.string v]:=by unfold rowAt;rw[List.flatMap_append];simp[atCells]
          rw[er];exact H10.out.2.1) (fun k hk=>by
          have e1:g2=k:=by simpa [Value.ownBlock] using hk
          rw[←e1]
          rcases H10.out.2.2.1 with h|h
          ·exact .inl h
          ·exact .inr (by omega))
         refine⟨j+1,some ⟨g2,0,none⟩,A11,cap,n10+1,c11,n11,by omega,by go_num,by omega,by omega,Lib.hid ?_⟩;rw[egot,elack];refine⟨hsd.1,H9.out.2.1.trans hsd.2,Nat.le_trans H9.out.2.2.1 hsd.2.size,?_,HL.out.2.2.2.2⟩;rw[List.length_append,List.length_singleton,HL.out.2.2.2.1]
       | none =>
        rw[hga] at hG;unfold getV at hG;have HG:=hidH2 hG hga;clear hG hga
        go_wp2_with fail
        refine HG.out.1.mono ?_;rintro e w9 ⟨rfl,hb9⟩;have hch9:=HL.out.1.below hb9;have hBC9:Below C W2 w9:=HL.out.2.1.trans (hb9.mono (by have:=HL.out.2.2.1;omega));have hs9:C+1≤w9.heap.size:=Nat.le_trans HL.out.2.2.1 hb9.size;have hc5:=hch9.hold.cell 5;simp at hc5;have hCl:C<w9.heap.size:=hs9;have e5:(w9.alloc (.cells #[.string nm] 9)).cell? ⟨C,5,none⟩=some (.slice A11 n11 c11):=by rw[World.cell?_alloc_lt _ _ _ hCl];exact hc5
        have hU:w9.ownsRow (C+1) 9 1 (.slice A11 n11 c11) n11 (rowTx (lackA a2 (ks.take j))):=by have h:=hch9.u;rw[HL.out.2.2.2.2] at h;exact h
        have H9:=hidH4 hch9 hBC9 hs9 hU;clear hch9 hBC9 hs9 hU hb9
        go_wp2_with (at_builtin;refine wpList_append_lies _ rfl _ _ 30 rfl (C+1) 9 i2 _ 1 16 txs_underA HI2.out.1 HI2.out.2.1 HI2.out.2.2.1 HI2.out.2.2.2 rfl (by omega) (.slice A11 n11 c11) n11 (rowTx (lackA a2 (ks.take j))) (by rfl) (H9.out.2.2.2.alloc _) ⟨w9.heap.size,0,none⟩ 1 1 [.string nm] rfl rfl (World.news_of_block (cs:=#[.string nm]) (t:=9) (fr:=(0,0)) (heap_alloc_new w9 _)) (by simp[Value.oneCell']) (by omega) (by unfold maxLen;omega) (by omega) (by simp;omega) (w9.heap.size+1) (by simp) ?_;intro g2 cap w10 ho10 hg10 hat10 hl10;have hC10:Chg w9 w10 (fun k=>(Value.slice A11 n11 c11).ownBlock=some k):=((Chg.refl w9 _).alloc _).trans (Chg.grown hg10) (fun _ _ h=>h.symm);have hh10:=hC10.holds (fun e=>by have h1:=(own_lt H9.out.2.2.2 e).1;omega) H9.out.1.hold;have k10:=hh10.cell 5;have f10:=hh10.free 5;simp at k10;have H10:=hidH4 hC10 ho10 hat10 hl10;clear hC10 ho10 hat10 hg10 hh10 hl10)
        go_roundg (gk-1)
        case measure=>omega
        case rel =>
         have egot:gotA a2 (ks.take (j+1))=gotA a2 (ks.take j):=by rw[HJ.out.2,gotA_snoc,HG.out.2];exact List.append_nil _
         have elack:lackA a2 (ks.take (j+1))=lackA a2 (ks.take j)++[nm]:=by rw[HJ.out.2,lackA_snoc,HG.out.2]
         have hsd:=ChR.set_u (U':=.slice (some ⟨g2,0,none⟩) (n11+1) cap) (us':=lackA a2 (ks.take j)++[nm]) H9.out.1 H10.out.1 (by
          rw[List.length_append,List.length_singleton,HL.out.2.2.2.2];have er:rowTx (lackA a2 (ks.take j)++[nm])=rowTx (lackA a2 (ks.take j))++[.string nm]:=by unfold rowTx;simp
          rw[er];exact H10.out.2.1) (fun k hk=>by
          have e1:g2=k:=by simpa [Value.ownBlock] using hk
          rw[←e1]
          rcases H10.out.2.2.1 with h|h
          ·exact .inl h
          ·exact .inr (by omega))
         refine⟨j+1,A10,some ⟨g2,0,none⟩,c10,n10,cap,n11+1,by omega,by go_num,by omega,by omega,Lib.hid ?_⟩;rw[egot,elack];refine⟨hsd.1,H9.out.2.1.trans hsd.2,Nat.le_trans H9.out.2.2.1 hsd.2.size,HL.out.2.2.2.1,?_⟩;rw[List.length_append,List.length_singleton,HL.out.2.2.2.2]
      ·obtain rfl:j=nk:=by omega
       have b01:=H1.out.2.2.2.2;have b02:=b01.trans (H2.out.2.2.2.2.2.2.2.2.1.mono b01.size);have b0r:=b02.trans (hbr.mono b02.size);have hXq:=HH.out.2.2.2.2.2.2.2.below b0r HH.out.2.2.2.2.2.2.2.lt;rw[HW.out.2] at hXq;have hbwr:Below w.heap.size w wr:=H2.out.2.2.2.1.trans (hbr.mono H2.out.2.2.2.1.size);have hqC:q<C:=by
        have h1:=HH.out.2.2.2.2.2.2.2.lt;have h2:=b02.size;have h3:=HO.out.2.2.2.2.2.2.2.2.2.2;have h4:=HW.out.2;omega
       have a0:=HL.out.1.hold.cell 0;have a1:=HL.out.1.hold.cell 1;have a2':=HL.out.1.hold.cell 2;have a3:=HL.out.1.hold.cell 3;have a4:=HL.out.1.hold.cell 4;have a5:=HL.out.1.hold.cell 5;have d0:=hXq.cell 0;have d1:=hXq.cell 1;have d2:=hXq.cell 2;have d3:=hXq.cell 3;have d4:=hXq.cell 4;have d5:=hXq.cell 5;have f0:=hXq.free 0;have f1:=hXq.free 1;have f2:=hXq.free 2;have f3:=hXq.free 3;have f4:=hXq.free 4;have f5:=hXq.free 5;simp at a0 a1 a2' a3 a4 a5 d0 d1 d2 d3 d4 d5;have HE:=hidH2 hbwr hqC;have h6:=(((((hXq.set 0 (.string name)).set 1 (.slice Ab k cb)).set 2 (.slice A9 n9 c9)).set 3 (.slice Af nf cf)).set 4 (.slice A10 n10 c10)).set 5 (.slice A11 n11 c11);have s6:=(((((Chg.set wr ⟨q,0,none⟩ (.string name)).trans (Chg.set _ ⟨q,1,none⟩ (.slice Ab k cb)) (fun _ _ h=>h)).trans (Chg.set _ ⟨q,2,none⟩ (.slice A9 n9 c9)) (fun _ _ h=>h)).trans (Chg.set _ ⟨q,3,none⟩ (.slice Af nf cf)) (fun _ _ h=>h)).trans (Chg.set _ ⟨q,4,none⟩ (.slice A10 n10 c10)) (fun _ _ h=>h)).trans (Chg.set _ ⟨q,5,none⟩ (.slice A11 n11 c11)) (fun _ _ h=>h);have hq0:q<W0.heap.size:=by have h1:=HH.out.2.2.2.2.2.2.2.lt;have h4:=HW.out.2;omega
       have hq1:q<W1.heap.size:=Nat.lt_of_lt_of_le hq0 b01.size;have hfrow:=(Chg.below (b02.trans (hbr.mono b02.size) |> fun _=>hbr) (fun _=>False)).owns ((Chg.below H2.out.2.2.2.2.2.2.2.2.1 (fun _=>False)).owns H1.out.2.2.1 (fun _ _ h=>h)) (fun _ _ h=>h);have HS:=hidH6 h6 s6 hq0 hq1 hfrow hbr;clear hbwr b01 b02 b0r hXq hbr hj hjt h6 s6 hq0 hq1 hfrow
       go_wp2_with fail
       refine bodyPost_ret (results_cell_row rfl _ _ q _ _ _ _ rfl HS.out.1 Tryz.underlying32 rfl (by kernel_rfl)) rfl ?_;have hcM:chapM src attrs name=⟨name,bs,dsF,r.files,gotA a2 ks,lackA a2 ks⟩:=by
        rw[HH.out.2.2.2.2.2.1];unfold chapR;rw[H2.out.2.2.2.2.1,H2.out.2.2.2.2.2.1,H7.out.2.2.2.2.1,H9.out.2.1,HO.out.2.2.2.2.2.2.2.2.2.1,HO.out.2.2.2.2.2.2.2.1,HO.out.2.2.2.2.2.2.2.2.1]
       have hkt:ks.take j=ks:=List.take_of_length_le (by rw[HO.out.2.2.2.2.2.1];exact Nat.le_refl _);have hLL:=HL.out;rw[hkt] at hLL;have hqC:=HE.out.2;rw[hcM];refine⟨_,rfl,⟨.slice Ab k cb,.slice A9 n9 c9,.slice Af nf cf,.slice A10 n10 c10,.slice A11 n11 c11,rfl,?_,?_,?_,?_,?_⟩,HE.out.1.trans (HS.out.2.1.toBelow HE.out.1.size (fun k hk=>by have h4:=HW.out.2;have e:k=q:=hk;omega))⟩
       ·exact H2.out.2.1 _ (fun b=>b=q) ((Chg.below HS.out.2.2.2.2.2 (fun b=>b=q)).trans HS.out.2.1 (fun _ _ h=>h)) (fun b hb=>.inl (by rw[hb];exact HS.out.2.2.2.1))
       ·exact DiagsAt.own (HS.out.2.1.owns (by have h:=hLL.1.d;rw[HO.out.2.1.2.2.2] at h ⊢;exact h) (fun b hb e=>by have h1:=(own_lt hLL.1.d hb).1;have e:b=q:=e;omega)) (Nat.le_refl _)
       ·exact TxS.own (HS.out.2.1.owns HS.out.2.2.2.2.1 (fun b hb e=>by have h1:=(own_lt HS.out.2.2.2.2.1 hb).1;have h2:=HS.out.2.2.1;have e:b=q:=e;omega)) HN.out.2.2.1.symm (fun b hb=>Nat.lt_of_lt_of_le (own_lt HS.out.2.2.2.2.1 hb).2 HS.out.2.1.size)
       ·exact AtS.own (HS.out.2.1.owns (by have h:=hLL.1.a;rw[hLL.2.2.2.1] at h;exact h) (fun b hb e=>by have h1:=(own_lt hLL.1.a hb).1;have e:b=q:=e;omega)) hLL.2.2.2.1.symm (fun b hb=>Nat.lt_of_lt_of_le (own_lt hLL.1.a hb).2 HS.out.2.1.size)
       ·exact TxS.own (HS.out.2.1.owns (by have h:=hLL.1.u;rw[hLL.2.2.2.2] at h;exact h) (fun b hb e=>by have h1:=(own_lt hLL.1.u hb).1;have e:b=q:=e;omega)) hLL.2.2.2.2.symm (fun b hb=>Nat.lt_of_lt_of_le (own_lt hLL.1.u hb).2 HS.out.2.1.size)
theorem texts_alike {l:List ByteArray} (hl:l.length≤2000000000){v u:Value}{w:World}{B:Nat} (h1:TxS w (· < B) v l) (h2:TxS w (· < B) u l) (hB:B≤w.heap.size) :
  Calls Tryz.prog 25 #[v,u] w fun e w'=>e=.returned (.bool true)∧Below B w w':=by
 obtain⟨A1,c1,rfl,hc1,k1⟩:=h1;obtain⟨A2,c2,rfl,hc2,k2⟩:=h2;have H1:=Lib.hid k1;have H2:=Lib.hid k2;clear k1 k2;obtain⟨n,hn⟩:∃n,l.length=n:=⟨_,rfl⟩;rw[hn] at hc1 hc2 hl ⊢;have HN:=Lib.hid hn;clear hn
 go_enter Tryz.func25,Tryz.ntmps25
 go_wp2
 go_loopg [5] n (fun q i wr=>∃k:Nat,k+q=n∧i=.int .i64 (k:Int)∧Hid (Below B w wr))
 case atStart=>exact⟨0,by omega,rfl,Below.refl _ _⟩
 case round =>
  obtain⟨k,hk,rfl,HR⟩:=hrel
  by_cases hlt:k<n
  ·obtain⟨x,hx⟩:∃x,l[k]? = some x:=⟨_,List.getElem?_eq_getElem (by have:=HN.out;omega)⟩;obtain⟨b1,off,rfl,hb1,p0⟩:=H1.out k x hx;obtain⟨b2,off2,rfl,hb2,q0⟩:=H2.out k x hx
   replace p0:=(HR.out.cell (p:=⟨b1,off+k,none⟩) hb1).trans p0
   replace q0:=(HR.out.cell (p:=⟨b2,off2+k,none⟩) hb2).trans q0
   clear hx;go_wp2
   go_quiet (fail)
   go_wp2
   go_roundg (gk-1)
   case measure=>omega
   case rel=>exact⟨k+1,by omega,by go_num,Go.below_drewN HR.out _⟩
  ·obtain rfl:k=n:=by omega
   go_wp2
   go_ret
   exact⟨rfl,HR.out⟩
theorem attrs_alike {l:List At} (hl:l.length≤2000000000){v u:Value}{w:World}{B:Nat} (h1:AtS w (· < B) v l) (h2:AtS w (· < B) u l) (hB:B≤w.heap.size) :
  Calls Tryz.prog 26 #[v,u] w fun e w'=>e=.returned (.bool true)∧Below B w w':=by
 obtain⟨A1,c1,rfl,hc1,k1⟩:=h1;obtain⟨A2,c2,rfl,hc2,k2⟩:=h2;rw[List.length_map] at hc1 hc2 ⊢;have H1:=Lib.hid k1;have H2:=Lib.hid k2;clear k1 k2;obtain⟨n,hn⟩:∃n,l.length=n:=⟨_,rfl⟩;rw[hn] at hc1 hc2 hl ⊢;have HN:=Lib.hid hn;clear hn
 go_enter Tryz.func26,Tryz.ntmps26
 go_wp2
 go_loopg [5] n (fun q i wr=>∃k:Nat,k+q=n∧i=.int .i64 (k:Int)∧Hid (Below B w wr))
 case atStart=>exact⟨0,by omega,rfl,Below.refl _ _⟩
 case round =>
  obtain⟨k,hk,rfl,HR⟩:=hrel
  by_cases hlt:k<n
  ·obtain⟨x,hx⟩:∃x,l[k]? = some x:=⟨_,List.getElem?_eq_getElem (by have:=HN.out;omega)⟩;obtain⟨b1,off,rfl,hb1,p0,p1⟩:=H1.out k (atP x) (by rw[List.getElem?_map,hx];rfl);obtain⟨b2,off2,rfl,hb2,q0,q1⟩:=H2.out k (atP x) (by rw[List.getElem?_map,hx];rfl);unfold atP at p0 p1 q0 q1;dsimp only at p0 p1 q0 q1
   replace p0:=(HR.out.cell (p:=⟨b1,off+k*2,none⟩) hb1).trans p0
   replace p1:=(HR.out.cell (p:=⟨b1,off+k*2+1,none⟩) hb1).trans p1
   replace q0:=(HR.out.cell (p:=⟨b2,off2+k*2,none⟩) hb2).trans q0
   replace q1:=(HR.out.cell (p:=⟨b2,off2+k*2+1,none⟩) hb2).trans q1
   clear hx;go_wp2
   go_quiet (fail)
   go_wp2
   go_roundg (gk-1)
   case measure=>omega
   case rel=>exact⟨k+1,by omega,by go_num,Go.below_drewN HR.out _⟩
  ·obtain rfl:k=n:=by omega
   go_wp2
   go_ret
   exact⟨rfl,HR.out⟩
theorem BlocksAt.up {w W:World}{B B':Nat}{v:Value}{l:List Bl} (h:BlocksAt w B v l) (hb:Below w.heap.size w W) (hB:B≤w.heap.size) (hB':B≤B'):BlocksAt W B' v l:=by
 obtain⟨A,c,kvs,h1,h2,h3,h4,h5⟩:=h;refine⟨A,c,kvs,h1,h2,h3,fun hne=>?_,fun j x kv hx hk=>?_⟩
 ·obtain⟨b,off,e,hbB,hc⟩:=h4 hne;exact⟨b,off,e,by omega,fun j x kv hx hk i u hu=>(hb.cell (p:=⟨b,off+j*9+i,none⟩) (by show b<_;omega)).trans (hc j x kv hx hk i u hu)⟩
 ·obtain⟨hf,hr⟩:=h5 j x kv hx hk;exact⟨hf.chg (Chg.below hb (fun _=>False)) (fun k hk=>Nat.lt_of_lt_of_le hk hB') (fun _ _ h=>h),RowsF.stays.go hr (Chg.below hb (fun _=>False)) (fun k hk=>Nat.lt_of_lt_of_le hk hB') (fun _ _ h=>h)⟩
theorem DiagsAt.up {w W:World}{B B':Nat}{v:Value}{l:List Dg} (h:DiagsAt w B v l) (hb:Below w.heap.size w W) (hB:B≤w.heap.size) (hB':B≤B'):DiagsAt W B' v l:=by
 obtain⟨A,c,h1,h2,h3⟩:=h;refine⟨A,c,h1,h2,fun hne=>?_⟩;obtain⟨b,off,e,hbB,hc⟩:=h3 hne;exact⟨b,off,e,by omega,fun j x hx i u hu=>(hb.cell (p:=⟨b,off+j*4+i,none⟩) (by show b<_;omega)).trans (hc j x hx i u hu)⟩
theorem TxS.up {w W:World}{B B':Nat}{v:Value}{l:List ByteArray} (h:TxS w (· < B) v l) (hb:Below w.heap.size w W) (hB:B≤w.heap.size) (hB':B≤B'):TxS W (· < B') v l:=by
 obtain⟨A,c,h1,h2,h3⟩:=h;refine⟨A,c,h1,h2,fun j s hj=>?_⟩;obtain⟨b,off,e,hbB,hc⟩:=h3 j s hj;exact⟨b,off,e,by show b<B';have:b<B:=hbB;omega,(hb.cell (p:=⟨b,off+j,none⟩) (by show b<_;have:b<B:=hbB;omega)).trans hc⟩
theorem AtS.up {w W:World}{B B':Nat}{v:Value}{l:List At} (h:AtS w (· < B) v l) (hb:Below w.heap.size w W) (hB:B≤w.heap.size) (hB':B≤B'):AtS W (· < B') v l:=by
 obtain⟨A,c,h1,h2,h3⟩:=h;refine⟨A,c,h1,h2,fun j s hj=>?_⟩;obtain⟨b,off,e,hbB,hc,hd⟩:=h3 j s hj;have hbB:b<B:=hbB;exact⟨b,off,e,by show b<B';omega,(hb.cell (p:=⟨b,off+j*2,none⟩) (by show b<_;omega)).trans hc,(hb.cell (p:=⟨b,off+j*2+1,none⟩) (by show b<_;omega)).trans hd⟩
theorem ChAt.up {w W:World}{B B':Nat}{v:Value}{c:Ch} (h:ChAt w B v c) (hb:Below w.heap.size w W) (hB:B≤w.heap.size) (hB':B≤B'):ChAt W B' v c:=by
 obtain⟨bv,dv,fv,av,uv,e,h1,h2,h3,h4,h5⟩:=h;exact⟨bv,dv,fv,av,uv,e,BlocksAt.up h1 hb hB hB',DiagsAt.up h2 hb hB hB',TxS.up h3 hb hB hB',AtS.up h4 hb hB hB',TxS.up h5 hb hB hB'⟩
theorem chapters_alike {c:Ch} (hm:∀x∈c.blocks,BlkSm x) (hl:c.blocks.length≤1000000000∧c.diags.length≤1000000000∧c.files.length≤2000000000∧c.attrs.length≤2000000000∧c.unset.length≤2000000000){v u:Value}{w:World}{B:Nat} (h1:ChAt w B v c) (h2:ChAt w B u c) (hB:B≤w.heap.size) :
  Calls Tryz.prog 9 #[v,u] w fun e w'=>e=.returned (.bool true)∧Below w.heap.size w w':=by
 obtain⟨b1,d1,f1,a1,u1,rfl,m1,m2,m3,m4,m5⟩:=h1;obtain⟨b2,d2,f2,a2,u2,rfl,n1,n2,n3,n4,n5⟩:=h2;have hb0:=((Below.refl w.heap.size w).alloc (Nat.le_refl _) (.cells #[.string c.name,b1,d1,f1,a1,u1] 32)).alloc (by simp) (.cells #[.string c.name,b2,d2,f2,a2,u2] 32);have hX1:=(Holds.new w 32 #[.string c.name,b1,d1,f1,a1,u1]).alloc (.cells #[.string c.name,b2,d2,f2,a2,u2] 32);have hX2:=Holds.new (w.alloc (.cells #[.string c.name,b1,d1,f1,a1,u1] 32)) 32 #[.string c.name,b2,d2,f2,a2,u2];rw[World.size_alloc] at hX2;obtain⟨p,hp⟩:∃p,w.heap.size=p:=⟨_,rfl⟩;rw[hp] at hX1 hX2;obtain⟨W1,hW1⟩:∃W1,(w.alloc (.cells #[.string c.name,b1,d1,f1,a1,u1] 32)).alloc (.cells #[.string c.name,b2,d2,f2,a2,u2] 32)=W1:=⟨_,rfl⟩;rw[hW1] at hb0 hX1 hX2;have hall:∀W,Below W1.heap.size W1 W→Below w.heap.size w W∧(W.cell? ⟨p,0,none⟩=some (.string c.name)∧W.cell? ⟨p,1,none⟩=some b1∧W.cell? ⟨p,2,none⟩=some d1∧W.cell? ⟨p,3,none⟩=some f1∧W.cell? ⟨p,4,none⟩=some a1∧W.cell? ⟨p,5,none⟩=some u1) ∧
   (W.cell? ⟨p+1,0,none⟩=some (.string c.name)∧W.cell? ⟨p+1,1,none⟩=some b2∧W.cell? ⟨p+1,2,none⟩=some d2∧W.cell? ⟨p+1,3,none⟩=some f2∧W.cell? ⟨p+1,4,none⟩=some a2∧W.cell? ⟨p+1,5,none⟩=some u2):=fun W hW=>by
  have g1:=hX1.below hW hX1.lt;have g2:=hX2.below hW hX2.lt;have q0:=g1.cell 0;have q1:=g1.cell 1;have q2:=g1.cell 2;have q3:=g1.cell 3;have q4:=g1.cell 4;have q5:=g1.cell 5;have r0:=g2.cell 0;have r1:=g2.cell 1;have r2:=g2.cell 2;have r3:=g2.cell 3;have r4:=g2.cell 4;have r5:=g2.cell 5;simp at q0 q1 q2 q3 q4 q5 r0 r1 r2 r3 r4 r5;exact⟨hb0.trans (hW.mono hb0.size),⟨q0,q1,q2,q3,q4,q5⟩,r0,r1,r2,r3,r4,r5⟩
 have hC1:=fun W (hW:Below w.heap.size w W)=>blocks_alike hm hl.1 (BlocksAt.up m1 hW hB (Nat.le_trans hB hW.size)) (BlocksAt.up n1 hW hB (Nat.le_trans hB hW.size)) (Nat.le_refl W.heap.size)
 have hC2:=fun W (hW:Below w.heap.size w W)=>diags_alike hl.2.1 (DiagsAt.up m2 hW hB (Nat.le_trans hB hW.size)) (DiagsAt.up n2 hW hB (Nat.le_trans hB hW.size)) (Nat.le_refl W.heap.size)
 have hC3:=fun W (hW:Below w.heap.size w W)=>texts_alike hl.2.2.1 (TxS.up m3 hW hB (Nat.le_trans hB hW.size)) (TxS.up n3 hW hB (Nat.le_trans hB hW.size)) (Nat.le_refl W.heap.size)
 have hC4:=fun W (hW:Below w.heap.size w W)=>attrs_alike hl.2.2.2.1 (AtS.up m4 hW hB (Nat.le_trans hB hW.size)) (AtS.up n4 hW hB (Nat.le_trans hB hW.size)) (Nat.le_refl W.heap.size)
 have hC5:=fun W (hW:Below w.heap.size w W)=>texts_alike hl.2.2.2.2 (TxS.up m5 hW hB (Nat.le_trans hB hW.size)) (TxS.up n5 hW hB (Nat.le_trans hB hW.size)) (Nat.le_refl W.heap.size)
 have HH:=hidH6 hall hC1 hC2 hC3 hC4 hC5;have HW:=hidH2 hW1 hp;obtain⟨hw1,⟨q0,q1,q2,q3,q4,q5⟩,r0,r1,r2,r3,r4,r5⟩:=hall W1 (Below.refl _ _);have HW1:=Lib.hid hw1;obtain⟨nm,hnm⟩:∃nm,c.name=nm:=⟨_,rfl⟩;rw[hnm] at q0 r0 hW1;rw[hnm];clear hall hC1 hC2 hC3 hC4 hC5 hb0 hX1 hX2 m1 m2 m3 m4 m5 n1 n2 n3 n4 n5 hm hl hB hnm hw1
 go_enter Tryz.func9,Tryz.ntmps9
 go_wp2_with fail
 have HB1:Hid (Below W1.heap.size W1 W1):=Lib.hid (Below.refl _ _);refine (HH.out.2.1 W1 (HH.out.1 W1 HB1.out).1).mono ?_;rintro e W2 ⟨rfl,hb1⟩;have HB2:=Lib.hid (HB1.out.trans (hb1.mono HB1.out.size));clear hb1 hW1 q0 q1 q2 q3 q4 q5 r0 r1 r2 r3 r4 r5;obtain⟨hw9,⟨q0,q1,q2,q3,q4,q5⟩,r0,r1,r2,r3,r4,r5⟩:=HH.out.1 W2 HB2.out;clear hw9
 go_wp2_with fail
 refine (HH.out.2.2.1 W2 (HH.out.1 W2 HB2.out).1).mono ?_;rintro e W3 ⟨rfl,hb2⟩;have HB3:=Lib.hid (HB2.out.trans (hb2.mono HB2.out.size));clear hb2 q0 q1 q2 q3 q4 q5 r0 r1 r2 r3 r4 r5;obtain⟨hw9,⟨q0,q1,q2,q3,q4,q5⟩,r0,r1,r2,r3,r4,r5⟩:=HH.out.1 W3 HB3.out;clear hw9
 go_wp2_with fail
 refine (HH.out.2.2.2.1 W3 (HH.out.1 W3 HB3.out).1).mono ?_;rintro e W4 ⟨rfl,hb3⟩;have HB4:=Lib.hid (HB3.out.trans (hb3.mono HB3.out.size));clear hb3 q0 q1 q2 q3 q4 q5 r0 r1 r2 r3 r4 r5;obtain⟨hw9,⟨q0,q1,q2,q3,q4,q5⟩,r0,r1,r2,r3,r4,r5⟩:=HH.out.1 W4 HB4.out;clear hw9
 go_wp2_with fail
 refine (HH.out.2.2.2.2.1 W4 (HH.out.1 W4 HB4.out).1).mono ?_;rintro e W5 ⟨rfl,hb4⟩;have HB5:=Lib.hid (HB4.out.trans (hb4.mono HB4.out.size));clear hb4 q0 q1 q2 q3 q4 q5 r0 r1 r2 r3 r4 r5;obtain⟨hw9,⟨q0,q1,q2,q3,q4,q5⟩,r0,r1,r2,r3,r4,r5⟩:=HH.out.1 W5 HB5.out;clear hw9
 go_wp2_with fail
 refine (HH.out.2.2.2.2.2 W5 (HH.out.1 W5 HB5.out).1).mono ?_;rintro e W6 ⟨rfl,hb5⟩;have HB6:=Lib.hid (HB5.out.trans (hb5.mono HB5.out.size));clear hb5 q0 q1 q2 q3 q4 q5 r0 r1 r2 r3 r4 r5;obtain⟨hw9,⟨q0,q1,q2,q3,q4,q5⟩,r0,r1,r2,r3,r4,r5⟩:=HH.out.1 W6 HB6.out;clear hw9
 go_wp2_with fail
 go_ret
 exact⟨rfl,(HH.out.1 W6 HB6.out).1⟩
end Go.Proofs.YtkkebmciiiajeaaGreatDoor
namespace Go.Bd
open Go.RowKit Go.Proofs.YtkkebmciiiajeaaGreatDoor
def exA:ByteArray:=⟨#[97]⟩
def exB:ByteArray:=⟨#[98]⟩
def exC:ByteArray:=⟨#[99]⟩
def exX:ByteArray:=⟨#[120]⟩
def exS:List Sc:=[⟨exA,⟨#[61,32,79,110,101,10,64,105,110,99,108,117,100,101,32,98,10]⟩⟩,⟨exB,⟨#[123,120,125,10]⟩⟩]
theorem ex_asked:(readS exS [] exA).asked=[exX]:=by decide +kernel
theorem ex_files:(readS exS [] exA).files=[exA,exB]:=by decide +kernel
theorem ex_diags:((readS exS [] exA).diags).length=0:=by decide +kernel
theorem ex_blocks:(blocksOf (readS exS [] exA).lines).length=2:=by decide +kernel
theorem ex_wrong:(diagsOf (readS exS [] exA).lines).length=0:=by decide +kernel
theorem ex_first:firstB (blocksOf (readS exS [] exA).lines)=false:=by decide +kernel
theorem ex_again:(againD (blocksOf (readS exS [] exA).lines).tail).length=0:=by decide +kernel
theorem ex_wt:wtX (readS exS [] exA).lines≤100000000:=by decide +kernel
theorem ex_none:findS exS exC=none:=by decide +kernel
theorem sort_one (n:ByteArray):sortN [n]=[n]:=by unfold sortN;simp[ofB]
theorem ex_chap:∃bs,bs.length=2∧chapM exS [] exA=⟨exA,bs,[],[exA,exB],[],[exX]⟩∧bs=blocksOf (readS exS [] exA).lines:=by
 refine⟨_,ex_blocks,?_,rfl⟩;have h1:=List.length_eq_zero_iff.1 ex_diags;have h2:=List.length_eq_zero_iff.1 ex_wrong;have h3:=List.length_eq_zero_iff.1 ex_again;unfold chapM chapR;rw[h1,h2,h3,firstD_eq,ex_first,ex_asked,ex_files,sort_one];rfl
theorem ex_miss:chapM exS [] exC=⟨exC,[],[⟨exC,0,1,exC⟩,⟨exC,1,13,⟨#[]⟩⟩],[],[],[]⟩:=by
 have e:readS exS [] exC={ firstA [] with diags:=[⟨exC,0,1,exC⟩] }:=by unfold readS;rw[ex_none]
 unfold chapM;rw[e];have e2:sortN []=[]:=by simp[sortN]
 unfold chapR
 show Ch.mk exC (blocksOf []) ([_]++diagsOf []++firstD exC (blocksOf [])++againD (blocksOf []).tail) [] (gotA _ (sortN [])) (lackA _ (sortN []))=_
 rw[e2];rfl
theorem ex_same (bs:List Bl):sameM ⟨exA,bs,[],[exA,exB],[],[exX]⟩ exS exS (firstA []).attrs=true:=by
 unfold sameM;dsimp only;decide +kernel
theorem ex_other (bs:List Bl):sameM ⟨exA,bs,[],[exA,exB],[],[exX]⟩ exS exS (firstA [⟨exX,⟨#[49]⟩⟩]).attrs=false:=by
 unfold sameM;dsimp only;decide +kernel
theorem ex_less (bs:List Bl):sameM ⟨exA,bs,[],[exA,exB],[],[exX]⟩ exS (exS.take 1) (firstA []).attrs=false:=by
 unfold sameM;dsimp only;decide +kernel
end Go.Bd
namespace Go.Proofs.YtkkebmciiiajeaaGreatDoor
open Go.RowKit Go.Bd
theorem lives_any {w:World}{m:Int} (hg:Glob m w) (h3:3≤w.heap.size) :
  Calls Tryz.prog 6 #[] w fun e w'=>e=.returned (.bool true)∧Below w.heap.size w w':=by
 have hB1:=(Below.refl w.heap.size w).alloc (Nat.le_refl _) (.cells #[.string ⟨#[97]⟩,.string ⟨#[61,32,79,110,101,10,64,105,110,99,108,117,100,101,32,98,10]⟩,.string ⟨#[98]⟩,.string ⟨#[123,120,125,10]⟩] 43);have hX1:=Holds.new w 43 #[.string ⟨#[97]⟩,.string ⟨#[61,32,79,110,101,10,64,105,110,99,108,117,100,101,32,98,10]⟩,.string ⟨#[98]⟩,.string ⟨#[123,120,125,10]⟩];obtain⟨p,hp⟩:∃p,w.heap.size=p:=⟨_,rfl⟩;rw[hp] at hX1;obtain⟨W1,hW1⟩:∃W1,w.alloc (.cells #[.string ⟨#[97]⟩,.string ⟨#[61,32,79,110,101,10,64,105,110,99,108,117,100,101,32,98,10]⟩,.string ⟨#[98]⟩,.string ⟨#[123,120,125,10]⟩] 43)=W1:=⟨_,rfl⟩;rw[hW1] at hB1 hX1;have hp1:p<W1.heap.size:=hX1.lt;have hsc:∀W,Below W1.heap.size W1 W→ScS W (fun b=>b=p) (.slice (some ⟨p,0,none⟩) 2 2) exS∧ScS W (fun b=>b=p) (.slice (some ⟨p,0,none⟩) 1 2) (exS.take 1):=fun W hW=>by
  have h:=hX1.below hW hp1;have c0:=h.cell 0;have c1:=h.cell 1;have c2:=h.cell 2;have c3:=h.cell 3;simp at c0 c1 c2 c3;constructor
  ·refine⟨_,2,rfl,Nat.le_refl _,fun j f hf=>?_⟩
   match j,hf with
   | 0,hf=>cases hf;exact⟨p,0,rfl,rfl,c0,c1⟩
   | 1,hf=>cases hf;exact⟨p,0,rfl,rfl,c2,c3⟩
   | j+2,hf=>simp[exS] at hf
  ·refine⟨_,2,rfl,by decide,fun j f hf=>?_⟩
   match j,hf with
   | 0,hf=>cases hf;exact⟨p,0,rfl,rfl,c0,c1⟩
   | j+1,hf=>simp[exS] at hf
 have hgl:∀W,Below W1.heap.size W1 W→Glob m W∧3≤W.heap.size∧Below w.heap.size w W:=fun W hW=>by
  have h:=hB1.trans (hW.mono hB1.size);exact⟨hg.chg (Chg.below h (fun _=>False)) (fun _ h=>h.elim),Nat.le_trans h3 h.size,h⟩
 have hnil:∀W,AtS W (fun _=>False) (.slice none 0 0) []:=fun W=>TwoS.nil _ _
 have hzs:∀s∈exS,s.text.size≤99999:=by decide +kernel
 have hC1:=fun W (hW:Below W1.heap.size W1 W)=>chapter_any (hsc W hW).1 (hnil W) (fun k hk=>by rw[hk];exact Nat.lt_of_lt_of_le hp1 hW.size) (fun k hk=>hk.elim) (by decide) (by decide) hzs (fun a ha=>by cases ha) (hgl W hW).1 (hgl W hW).2.1 exA (by decide) ex_wt
 have hwt2:wtX (readS exS [] exC).lines≤100000000:=by unfold readS;rw[ex_none];exact Nat.zero_le _
 have hC2:=fun W (hW:Below W1.heap.size W1 W)=>chapter_any (hsc W hW).1 (hnil W) (fun k hk=>by rw[hk];exact Nat.lt_of_lt_of_le hp1 hW.size) (fun k hk=>hk.elim) (by decide) (by decide) hzs (fun a ha=>by cases ha) (hgl W hW).1 (hgl W hW).2.1 exC (by decide) hwt2
 obtain⟨bs,hbs,hex,_⟩:=ex_chap;rw[hex] at hC1;rw[ex_miss] at hC2;have HH:=hidH6 hsc hgl hC1 hC2 hbs hp1;have HW:=hidH2 hW1 hp;clear hsc hgl hnil hzs hC1 hC2 hwt2 hbs hex hg h3 hX1 hB1 hp1
 go_enter Tryz.func6,Tryz.ntmps6
 go_wp2_with fail
 (try rw[HW.out.1])
 (try rw[HW.out.2])
 clear hW1 hp;refine (HH.out.2.2.1 W1 (Below.refl _ _)).mono ?_;rintro e W2 ⟨cv,rfl,hch,hb2⟩;obtain⟨bv,dv,fv,av,uv,rfl,m1,m2,m3,m4,m5⟩:=hch;have hchA:ChAt W2 W2.heap.size (.agg #[.string exA,bv,dv,fv,av,uv]) ⟨exA,bs,[],[exA,exB],[],[exX]⟩:=⟨bv,dv,fv,av,uv,rfl,m1,m2,m3,m4,m5⟩;obtain⟨Ab,cb,hbv,_⟩:=BlocksAt.form m1;obtain⟨Ad,cd,hdv,_⟩:=DiagsAt.form m2;obtain⟨Af,cf,hfv,_,hff⟩:=m3;obtain⟨Aa,ca,hav,_,_⟩:=m4;obtain⟨Au,cu,huv,_,huf⟩:=m5;obtain⟨gf,of,hAf,hgf,cf1⟩:=hff 1 exB rfl;obtain⟨gu,ou,hAu,hgu,cu0⟩:=huf 0 exX rfl;dsimp only at hbv hdv hfv hav huv;rw[HH.out.2.2.2.2.1] at hbv;simp only[List.length_nil,List.length_cons,List.map_nil,Nat.zero_add,Nat.reduceAdd] at hdv hfv hav huv;subst hbv hdv hfv hav huv hAf hAu;have hB3:=(Below.refl W2.heap.size W2).alloc (Nat.le_refl _) (.cells #[.string ⟨#[97]⟩,.slice Ab 2 cb,.slice Ad 0 cd,.slice (some ⟨gf,of,none⟩) 2 cf,.slice Aa 0 ca,.slice (some ⟨gu,ou,none⟩) 1 cu] 32);have hX3:=Holds.new W2 32 #[.string ⟨#[97]⟩,.slice Ab 2 cb,.slice Ad 0 cd,.slice (some ⟨gf,of,none⟩) 2 cf,.slice Aa 0 ca,.slice (some ⟨gu,ou,none⟩) 1 cu];obtain⟨q,hq⟩:∃q,W2.heap.size=q:=⟨_,rfl⟩;obtain⟨W3,hW3⟩:∃W3,W2.alloc (.cells #[.string ⟨#[97]⟩,.slice Ab 2 cb,.slice Ad 0 cd,.slice (some ⟨gf,of,none⟩) 2 cf,.slice Aa 0 ca,.slice (some ⟨gu,ou,none⟩) 1 cu] 32)=W3:=⟨_,rfl⟩;rw[hW3] at hB3 hX3;have hgf3:gf<W2.heap.size:=hgf;have hgu3:gu<W2.heap.size:=hgu;have hb13:=hb2.trans (hB3.mono hb2.size);have H3:=hidH8 hchA hB3 (hq ▸ hX3:Holds W3 q 32 _) cf1 cu0 hgf3 hgu3 hb13;have HW3:=hidH2 hW3 hq
 clear hchA hB3 hX3 cf1 cu0 hgf hgu hgf3 hgu3 hb13 hW3 hb2 hff huf m1 m2;have ezA:exA=⟨#[97]⟩:=rfl;rw[ezA]
 go_wp2_with fail
 (try rw[HW3.out.1])
 (try rw[HW3.out.2])
 clear hq;refine (HH.out.2.2.2.1 W3 H3.out.2.2.2.2.2.2.2).mono ?_;rintro e W4 ⟨cv,rfl,hch,hb4⟩;obtain⟨bv2,dv2,fv2,av2,uv2,rfl,m1,m2,m3,m4,m5⟩:=hch;obtain⟨Ab2,cb2,hbv,_⟩:=BlocksAt.form m1;obtain⟨Ad2,cd2,hdv,_⟩:=DiagsAt.form m2;obtain⟨Af2,cf2,hfv,_,_⟩:=m3;obtain⟨Aa2,ca2,hav,_,_⟩:=m4;obtain⟨Au2,cu2,huv,_,_⟩:=m5;dsimp only at hbv hdv hfv hav huv;simp only[List.length_nil,List.length_cons,List.map_nil,Nat.zero_add,Nat.reduceAdd] at hbv hdv hfv hav huv;subst hbv hdv hfv hav huv;obtain⟨gd,od,hAd,hgd,_,_,e0,_⟩:=DiagsAt.at m2 (j:=0) rfl;obtain⟨gd',od',hAd',_,_,_,e1,_⟩:=DiagsAt.at m2 (j:=1) rfl;subst hAd;injection hAd' with hAd'
 injection hAd' with h1 h2
 subst h1 h2;have hB5:=(Below.refl W4.heap.size W4).alloc (Nat.le_refl _) (.cells #[.string ⟨#[99]⟩,.slice Ab2 0 cb2,.slice (some ⟨gd,od,none⟩) 2 cd2,.slice Af2 0 cf2,.slice Aa2 0 ca2,.slice Au2 0 cu2] 32);have hX5:=Holds.new W4 32 #[.string ⟨#[99]⟩,.slice Ab2 0 cb2,.slice (some ⟨gd,od,none⟩) 2 cd2,.slice Af2 0 cf2,.slice Aa2 0 ca2,.slice Au2 0 cu2];obtain⟨r,hr⟩:∃r,W4.heap.size=r:=⟨_,rfl⟩;obtain⟨W5,hW5⟩:∃W5,W4.alloc (.cells #[.string ⟨#[99]⟩,.slice Ab2 0 cb2,.slice (some ⟨gd,od,none⟩) 2 cd2,.slice Af2 0 cf2,.slice Aa2 0 ca2,.slice Au2 0 cu2] 32)=W5:=⟨_,rfl⟩;rw[hW5] at hB5 hX5;rw[hr] at hX5;have h25:Below W2.heap.size W2 W5:=by
  have h1:=H3.out.2.1.trans (hb4.mono H3.out.2.1.size);exact h1.trans (hB5.mono h1.size)
 have h35:Below W3.heap.size W3 W5:=hb4.trans (hB5.mono hb4.size);have h15:Below W1.heap.size W1 W5:=H3.out.2.2.2.2.2.2.2.trans (h35.mono H3.out.2.2.2.2.2.2.2.size);have hgd4:gd<W4.heap.size:=hgd;have hall:∀W,Below W5.heap.size W5 W→(W.cell? ⟨q,0,none⟩=some (.string ⟨#[97]⟩)∧W.cell? ⟨q,1,none⟩=some (.slice Ab 2 cb)∧W.cell? ⟨q,2,none⟩=some (.slice Ad 0 cd)∧W.cell? ⟨q,3,none⟩=some (.slice (some ⟨gf,of,none⟩) 2 cf)∧W.cell? ⟨q,4,none⟩=some (.slice Aa 0 ca)∧W.cell? ⟨q,5,none⟩=some (.slice (some ⟨gu,ou,none⟩) 1 cu)) ∧
   W.cell? ⟨r,2,none⟩=some (.slice (some ⟨gd,od,none⟩) 2 cd2)∧W.cell? ⟨gf,of+1,none⟩=some (.string ⟨#[98]⟩)∧W.cell? ⟨gu,ou,none⟩=some (.string ⟨#[120]⟩)∧W.cell? ⟨gd,od+2,none⟩=some (.int .i64 1)∧W.cell? ⟨gd,od+4+2,none⟩=some (.int .i64 13) ∧
   ChAt W W.heap.size (.agg #[.string ⟨#[97]⟩,.slice Ab 2 cb,.slice Ad 0 cd,.slice (some ⟨gf,of,none⟩) 2 cf,.slice Aa 0 ca,.slice (some ⟨gu,ou,none⟩) 1 cu]) ⟨exA,bs,[],[exA,exB],[],[exX]⟩∧Below W1.heap.size W1 W:=fun W hW=>by
  have h3:=H3.out.2.2.1.below (h35.trans (hW.mono h35.size)) H3.out.2.2.1.lt;have h5:=hX5.below hW hX5.lt;have a0:=h3.cell 0;have a1:=h3.cell 1;have a2:=h3.cell 2;have a3:=h3.cell 3;have a4:=h3.cell 4;have a5:=h3.cell 5;have b2:=h5.cell 2;simp at a0 a1 a2 a3 a4 a5 b2;have h2W:=h25.trans (hW.mono h25.size);have h4W:=hB5.trans (hW.mono hB5.size);refine⟨⟨a0,a1,a2,a3,a4,a5⟩,b2,(h2W.cell (p:=⟨gf,of+1,none⟩) H3.out.2.2.2.2.2.1).trans H3.out.2.2.2.1,(h2W.cell (p:=⟨gu,ou,none⟩) H3.out.2.2.2.2.2.2.1).trans H3.out.2.2.2.2.1,(h4W.cell (p:=⟨gd,od+2,none⟩) hgd4).trans ?_,(h4W.cell (p:=⟨gd,od+4+2,none⟩) hgd4).trans ?_,ChAt.up H3.out.1 h2W (Nat.le_refl _) h2W.size,h15.trans (hW.mono h15.size)⟩
  ·rw[Nat.zero_mul,Nat.add_zero] at e0;exact e0
  ·rw[Nat.one_mul] at e1;exact e1
 have H5:=Lib.hid hall;have HW5:=hidH2 hW5 hr;obtain⟨⟨c0,c1,c2,c3,c4,c5⟩,d2,f1,u0,g0,g1,hz1,hz2⟩:=hall W5 (Below.refl _ _);clear hz1 hz2;clear hall hB5 hX5 h25 h35 h15 hgd hgd4 e0 e1 m1 m2 hb4;have ezC:exC=⟨#[99]⟩:=rfl;rw[ezC];have hlc:([exA,exB]:List ByteArray).length≤1000000000∧([]:List Dg).length≤1000000000∧([]:List At).length≤2000000000∧([exX]:List ByteArray).length≤2000000000:=by decide
 have hS1:∀W,Below W5.heap.size W5 W→Calls Tryz.prog 8 #[.agg #[.string ⟨#[97]⟩,.slice Ab 2 cb,.slice Ad 0 cd,.slice (some ⟨gf,of,none⟩) 2 cf,.slice Aa 0 ca,.slice (some ⟨gu,ou,none⟩) 1 cu],.slice (some ⟨p,0,none⟩) 2 2,.slice (some ⟨p,0,none⟩) 2 2,.slice none 0 0] W fun e w'=>e=.returned (.bool true)∧Below W.heap.size W w':=fun W hW=>by
  obtain⟨_,_,_,_,_,_,hch,hW1⟩:=H5.out W hW;have hlt:∀k,k=p→k<W.heap.size:=fun k hk=>by rw[hk];exact Nat.lt_of_lt_of_le HH.out.2.2.2.2.2 hW1.size
  have h:=same_ch (attrs:=[]) hch (Nat.le_refl _) (HH.out.1 W hW1).1 (HH.out.1 W hW1).1 (TwoS.nil W (fun _=>False)) hlt hlt (fun k hk=>hk.elim) (by decide) (by decide) (by decide) (fun a ha=>by cases ha) hlc;rw[ex_same] at h;exact h
 have hS2:∀W,Below W5.heap.size W5 W→Calls Tryz.prog 8 #[.agg #[.string ⟨#[97]⟩,.slice Ab 2 cb,.slice Ad 0 cd,.slice (some ⟨gf,of,none⟩) 2 cf,.slice Aa 0 ca,.slice (some ⟨gu,ou,none⟩) 1 cu],.slice (some ⟨p,0,none⟩) 2 2,.slice (some ⟨p,0,none⟩) 2 2,.slice (some ⟨W.heap.size,0,none⟩) 1 1] (W.alloc (.cells #[.string ⟨#[120]⟩,.string ⟨#[49]⟩] 47)) fun e w'=>e=.returned (.bool false)∧Below (W.alloc (.cells #[.string ⟨#[120]⟩,.string ⟨#[49]⟩] 47)).heap.size (W.alloc (.cells #[.string ⟨#[120]⟩,.string ⟨#[49]⟩] 47)) w':=fun W hW=>by
  have hWa:Below W5.heap.size W5 (W.alloc (.cells #[.string ⟨#[120]⟩,.string ⟨#[49]⟩] 47)):=hW.alloc hW.size _;obtain⟨_,_,_,_,_,_,hch,hW1⟩:=H5.out _ hWa;have hlt:∀k,k=p→k<(W.alloc (.cells #[.string ⟨#[120]⟩,.string ⟨#[49]⟩] 47)).heap.size:=fun k hk=>by rw[hk];exact Nat.lt_of_lt_of_le HH.out.2.2.2.2.2 hW1.size
  have hX:=Holds.new W 47 #[.string ⟨#[120]⟩,.string ⟨#[49]⟩];have x0:=hX.cell 0;have x1:=hX.cell 1;simp only[List.getElem?_toArray,List.getElem?_cons_zero,List.getElem?_cons_succ] at x0 x1;have hat:AtS (W.alloc (.cells #[.string ⟨#[120]⟩,.string ⟨#[49]⟩] 47)) (fun b=>b=W.heap.size) (.slice (some ⟨W.heap.size,0,none⟩) 1 1) [⟨exX,⟨#[49]⟩⟩]:=by
   refine⟨_,1,rfl,Nat.le_refl _,fun j f hf=>?_⟩
   match j,hf with
   | 0,hf=>cases hf;exact⟨W.heap.size,0,rfl,rfl,x0,x1⟩
   | j+1,hf=>simp at hf
  have h:=same_ch hch (Nat.le_refl _) (HH.out.1 _ hW1).1 (HH.out.1 _ hW1).1 hat hlt hlt (fun k hk=>by rw[hk];simp) (by decide) (by decide) (by decide) (fun a ha=>by rw[List.mem_singleton.1 ha];decide) hlc;rw[ex_other] at h;exact h
 have hS3:∀W,Below W5.heap.size W5 W→Calls Tryz.prog 8 #[.agg #[.string ⟨#[97]⟩,.slice Ab 2 cb,.slice Ad 0 cd,.slice (some ⟨gf,of,none⟩) 2 cf,.slice Aa 0 ca,.slice (some ⟨gu,ou,none⟩) 1 cu],.slice (some ⟨p,0,none⟩) 2 2,.slice (some ⟨p,0,none⟩) 1 2,.slice none 0 0] W fun e w'=>e=.returned (.bool false)∧Below W.heap.size W w':=fun W hW=>by
  obtain⟨_,_,_,_,_,_,hch,hW1⟩:=H5.out W hW;have hlt:∀k,k=p→k<W.heap.size:=fun k hk=>by rw[hk];exact Nat.lt_of_lt_of_le HH.out.2.2.2.2.2 hW1.size
  have h:=same_ch (attrs:=[]) hch (Nat.le_refl _) (HH.out.1 W hW1).1 (HH.out.1 W hW1).2 (TwoS.nil W (fun _=>False)) hlt hlt (fun k hk=>hk.elim) (by decide) (by decide) (by decide) (fun a ha=>by cases ha) hlc;rw[ex_less] at h;exact h
 have hK:∀W,Below W5.heap.size W5 W→(W.cell? ⟨q,0,none⟩=some (.string ⟨#[97]⟩)∧W.cell? ⟨q,1,none⟩=some (.slice Ab 2 cb)∧W.cell? ⟨q,2,none⟩=some (.slice Ad 0 cd)∧W.cell? ⟨q,3,none⟩=some (.slice (some ⟨gf,of,none⟩) 2 cf)∧W.cell? ⟨q,4,none⟩=some (.slice Aa 0 ca)∧W.cell? ⟨q,5,none⟩=some (.slice (some ⟨gu,ou,none⟩) 1 cu))∧W.cell? ⟨r,2,none⟩=some (.slice (some ⟨gd,od,none⟩) 2 cd2)∧W.cell? ⟨gf,of+1,none⟩=some (.string ⟨#[98]⟩)∧W.cell? ⟨gu,ou,none⟩=some (.string ⟨#[120]⟩)∧W.cell? ⟨gd,od+2,none⟩=some (.int .i64 1)∧W.cell? ⟨gd,od+4+2,none⟩=some (.int .i64 13):=fun W hW=>by
  obtain⟨a1,a2,a3,a4,a5,a6,_,_⟩:=H5.out W hW;exact⟨a1,a2,a3,a4,a5,a6⟩
 have K5:=hK W5 (Below.refl _ _);have HS:=hidH4 hS1 hS2 hS3 hK;clear hS1 hS2 hS3 hK hlc
 go_wp2_with fail
 (try rw[HW5.out.1])
 clear hW5 hr c0 c1 c2 c3 c4 c5 d2 f1 u0 g0 g1;refine wp_region_held_drew (S:=(fun w'=>(w'.cell? ⟨q,0,none⟩=some (.string ⟨#[97]⟩)∧w'.cell? ⟨q,1,none⟩=some (.slice Ab 2 cb)∧w'.cell? ⟨q,2,none⟩=some (.slice Ad 0 cd)∧w'.cell? ⟨q,3,none⟩=some (.slice (some ⟨gf,of,none⟩) 2 cf)∧w'.cell? ⟨q,4,none⟩=some (.slice Aa 0 ca)∧w'.cell? ⟨q,5,none⟩=some (.slice (some ⟨gu,ou,none⟩) 1 cu))∧w'.cell? ⟨r,2,none⟩=some (.slice (some ⟨gd,od,none⟩) 2 cd2)∧w'.cell? ⟨gf,of+1,none⟩=some (.string ⟨#[98]⟩)∧w'.cell? ⟨gu,ou,none⟩=some (.string ⟨#[120]⟩)∧w'.cell? ⟨gd,od+2,none⟩=some (.int .i64 1)∧w'.cell? ⟨gd,od+4+2,none⟩=some (.int .i64 13))) (by kernel_rfl) ?_ (fun hHeld0=>?_)
 ·(try dsimp only)
  first|exact K5|exact K6|exact K7|exact K8|exact K9
 refine tkH 0 11 ?_;refine tkH 1 12 ?_;refine tkH 2 13 ?_;refine tkH 3 14 ?_;refine tkH 4 15 ?_;refine tkH 5 16 ?_;refine tkH 6 17 ?_;refine tkH 7 18 ?_;refine tkH 8 19 ?_;refine tkH 9 20 ?_;refine tkH 10 21 ?_;refine tkH 11 22 ?_;refine tkH 12 23 ?_;refine tkH 13 24 ?_;refine tkH 14 25 ?_;refine tkH 15 26 ?_;refine tkH 16 27 ?_;refine tkH 17 28 ?_;refine tkH 18 29 ?_;refine tkH 19 30 ?_;refine tkH 20 31 ?_;refine wpAnyH_take (i:=21) (oi:=⟨some 32,_,_,_,_,_⟩) (v:=(.bool true)) rfl (by kernel_rfl) (by kernel_rfl) (by kernel_rfl) (fun _ _ _ h=>h) (Or.inl ⟨by kernel_rfl,?_⟩) (by assumption) ?_
 ·(intro w hSw;kernel_rfl)
 (try go_frame)
 refine tkH 22 33 ?_;refine tkH 23 34 ?_;refine tkH 24 35 ?_;refine tkH 25 36 ?_;refine tkH 26 37 ?_;refine tkH 27 38 ?_;refine tkH 28 39 ?_;refine tkH 29 40 ?_;refine tkH 30 41 ?_;refine tkH 31 42 ?_;refine tkH 32 43 ?_;refine tkH 33 44 ?_;refine wpAnyH_take (i:=34) (oi:=⟨some 45,_,_,_,_,_⟩) (v:=(.bool true)) rfl (by kernel_rfl) (by kernel_rfl) (by kernel_rfl) (fun _ _ _ h=>h) (Or.inl ⟨by kernel_rfl,?_⟩) (by assumption) ?_
 ·(intro w hSw;kernel_rfl)
 (try go_frame)
 refine tkH 35 46 ?_;refine tkH 36 47 ?_;refine tkH 37 48 ?_;refine tkH 38 49 ?_;refine tkH 39 50 ?_;refine rdyH [40] ?_;refine AllReadyH.cons (o:=⟨some 51,_,_,_,_,_⟩) rfl (fun K hK=>?_) AllReadyH.nil;go_simp;refine (HS.out.1 _ ((Below.refl W5.heap.size W5).drew)).mono ?_;rintro e W6 ⟨rfl,hb6⟩;have HB6:=Lib.hid (((Below.refl W5.heap.size W5).drew).trans hb6);have K6:=HS.out.2.2.2 W6 HB6.out;have K7:=HS.out.2.2.2 (W6.alloc (.cells #[.string ⟨#[120]⟩,.string ⟨#[49]⟩] 47)) (HB6.out.alloc HB6.out.size _);clear hb6;refine hK.out _ _ ?_ (fun hHeld1=>?_)
 ·(try dsimp only)
  first|exact K5|exact K6|exact K7|exact K8|exact K9
 clear hK K hHeld0
 (try go_frame)
 refine tkH 41 52 ?_;refine tkH 42 53 ?_;refine tkH 43 54 ?_;refine tkH 44 55 ?_;refine tkH 45 56 ?_;refine tkH 46 57 ?_;refine rdyH [47] ?_;refine AllReadyH.cons (o:=⟨some 58,_,_,_,_,_⟩) rfl (fun K hK=>?_) AllReadyH.nil;go_simp;refine hK.out _ _ ?_ (fun hHeld2=>?_)
 ·(try dsimp only)
  first|exact K5|exact K6|exact K7|exact K8|exact K9
 clear hK K hHeld1
 (try go_frame)
 refine rdyH [48] ?_;refine AllReadyH.cons (o:=⟨some 59,_,_,_,_,_⟩) rfl (fun K hK=>?_) AllReadyH.nil;go_simp;refine (HS.out.2.1 W6 HB6.out).mono ?_;rintro e W8 ⟨rfl,hb8⟩;have HB8:=Lib.hid ((HB6.out.alloc HB6.out.size (.cells #[.string ⟨#[120]⟩,.string ⟨#[49]⟩] 47)).trans (hb8.mono (by have:=HB6.out.size;simp;omega)));have K8:=HS.out.2.2.2 W8 HB8.out;clear hb8;refine hK.out _ _ ?_ (fun hHeld3=>?_)
 ·(try dsimp only)
  first|exact K5|exact K6|exact K7|exact K8|exact K9
 clear hK K hHeld2
 (try go_frame)
 refine tkH 49 60 ?_;refine tkH 50 61 ?_;refine tkH 51 62 ?_;refine tkH 52 63 ?_;refine tkH 53 64 ?_;refine tkH 54 65 ?_;refine tkH 55 66 ?_;refine rdyH [56] ?_;refine AllReadyH.cons (o:=⟨some 67,_,_,_,_,_⟩) rfl (fun K hK=>?_) AllReadyH.nil;go_simp;refine (HS.out.2.2.1 W8 HB8.out).mono ?_;rintro e W9 ⟨rfl,hb9⟩;have HB9:=Lib.hid (HB8.out.trans (hb9.mono HB8.out.size));have K9:=HS.out.2.2.2 W9 HB9.out;clear hb9;refine hK.out _ _ ?_ (fun hHeld4=>?_)
 ·(try dsimp only)
  first|exact K5|exact K6|exact K7|exact K8|exact K9
 clear hK K hHeld3
 (try go_frame)
 refine tkH 57 68 ?_;refine tkH 58 69 ?_;refine tkH 59 70 ?_;refine tkH 60 71 ?_;refine tkH 61 72 ?_;refine tkH 62 73 ?_;refine tkH 63 74 ?_;refine tkH 64 75 ?_;refine tkH 65 76 ?_;refine tkH 66 77 ?_;refine tkH 67 78 ?_;refine tkH 68 79 ?_;refine tkH 69 80 ?_;refine tkH 70 81 ?_;refine tkH 71 82 ?_;refine tkH 72 83 ?_;refine tkH 73 84 ?_;refine tkH 74 85 ?_;refine tkH 75 86 ?_;refine tkH 76 87 ?_;refine tkH 77 88 ?_;refine tkH 78 89 ?_;refine tkH 79 90 ?_;refine tkH 80 91 ?_;refine tkH 81 0 ?_;refine wpAnyH_done (by kernel_rfl) ?_ _
 go_wp2_with fail
 go_ret
 exact⟨rfl,(HH.out.2.1 W9 (H5.out W9 HB9.out).2.2.2.2.2.2.2).2.2⟩
end Go.Proofs.YtkkebmciiiajeaaGreatDoor
namespace Go.Bd
open Go.RowKit Go.Proofs.YtkkebmciiiajeaaGreatDoor
theorem lnW_wt:∀l:List Ln,lnW l=wtX l
 | []=>rfl
 | x::l=>by rw[lnW,wtX,lnW_wt l]
theorem Fine.src {src:List Sc}{attrs:List At} (h:Fine src attrs):(∀s∈src,s.text.size≤99999)∧(∀a∈attrs,a.name.size≤100000∧a.value.size≤100000)∧src.length≤100∧attrs.length≤8000:=by
 obtain⟨h1,h2,_⟩:=h;refine⟨fun s hs=>?_,fun a ha=>?_,h2,?_⟩
 ·have:=twoZ_mem (List.mem_map_of_mem (f:=scP) hs)
  unfold scP at this h1;dsimp only at this;omega
 ·have:=twoZ_mem (List.mem_map_of_mem (f:=atP) ha)
  unfold atP at this h1;dsimp only at this;constructor<;>omega
 ·have:(attrs.map atP).length≤twoZ (attrs.map atP):=by unfold twoZ;omega
  rw[List.length_map] at this;omega
theorem Fine.wt {src:List Sc}{attrs:List At} (h:Fine src attrs) (n:ByteArray):wtX (readS src attrs n).lines≤100000000:=by
 obtain⟨_,_,b,h3,h4⟩:=h;rw[←lnW_wt];exact readS_w (Nat.le_refl _) h3 h4
theorem mem_sortN {l:List ByteArray}{m:ByteArray}:m∈sortN l↔m∈l:=by
 unfold sortN;rw[List.mem_map];constructor
 ·rintro⟨x,hx,rfl⟩;have hx2:=(List.mergeSort_perm _ leB).mem_iff.1 hx;obtain⟨y,hy,rfl⟩:=List.mem_map.1 hx2;rw[ofB_lst];exact hy
 ·intro h;exact⟨m.data.toList,(List.mergeSort_perm _ leB).mem_iff.2 (List.mem_map_of_mem (f:=fun n=>n.data.toList) h),ofB_lst m⟩
theorem got_congr {a b:List At}:∀{l:List ByteArray},(∀m∈l,getA a m=getA b m)→gotA a l=gotA b l∧lackA a l=lackA b l
 | [],_=>⟨rfl,rfl⟩
 | m::l,h=>by
  obtain⟨h1,h2⟩:=got_congr (l:=l) (fun x hx=>h x (List.mem_cons_of_mem _ hx));have h3:=h m (List.mem_cons.2 (.inl rfl));unfold gotA lackA at *;rw[List.filterMap_cons,List.filterMap_cons,List.filter_cons,List.filter_cons,h3,h1,h2];exact⟨rfl,rfl⟩
theorem alike_plain {s1 s2:List Sc}{a1 a2:List At}{name:ByteArray} (h:sameM (chapM s1 a1 name) s1 s2 (firstA a2).attrs=true):chapM s2 a2 name=chapM s1 a1 name:=by
 unfold sameM at h;rw[Bool.and_eq_true,Bool.and_eq_true,Bool.and_eq_true,List.all_eq_true,List.all_eq_true,List.all_eq_true,List.all_eq_true] at h;obtain⟨hF,hD,hA,hU⟩:=h;obtain⟨r,hr⟩:∃r,readS s1 a1 name=r:=⟨_,rfl⟩;have hc:chapM s1 a1 name=chapR r (firstA a1).attrs name:=by unfold chapM;rw[hr]
 rw[hc] at hF hD hA hU;have hfile:∀f∈r.files,findS s1 f=findS s2 f∧(findS s1 f).isSome:=fun f hf=>by
  have h1:=hF f hf;unfold sameF at h1;cases hx:findS s1 f with
  | none=>rw[hx] at h1;cases h1
  | some x =>
   rw[hx] at h1;cases hy:findS s2 f with
   | none=>rw[hy] at h1;cases h1
   | some y =>
    rw[hy] at h1;dsimp only at h1;rw[decide_eq_true_eq] at h1;rw[h1];exact⟨rfl,rfl⟩
 have hdiag:∀d∈r.diags,d.fault=1→findS s2 d.text=none:=fun d hd h1=>by
  have h2:=hD d (by
   show d∈r.diags++diagsOf r.lines++firstD name (blocksOf r.lines)++againD (blocksOf r.lines).tail
   rw[List.append_assoc,List.append_assoc];exact List.mem_append.2 (.inl hd))
  unfold sameD at h2;rw[decide_eq_true h1] at h2;cases hy:findS s2 d.text with
  | none=>rfl
  | some y=>rw[hy] at h2;cases h2
 have hask:∀m∈r.asked,getA (firstA a1).attrs m=getA (firstA a2).attrs m:=fun m hm=>by
  have hm2:=mem_sortN.2 hm;cases hg:getA (firstA a1).attrs m with
  | none =>
   have h1:=hU m (by
    show m∈lackA (firstA a1).attrs (sortN r.asked)
    unfold lackA;rw[List.mem_filter,hg];exact⟨hm2,rfl⟩)
   unfold sameU at h1;cases hy:getA (firstA a2).attrs m with
   | none=>rfl
   | some y=>rw[hy] at h1;cases h1
  | some v =>
   have h1:=hA ⟨m,v⟩ (by
    show (⟨m,v⟩:At)∈gotA (firstA a1).attrs (sortN r.asked)
    unfold gotA;rw[List.mem_filterMap];exact⟨m,hm2,by rw[hg];rfl⟩)
   unfold sameA at h1;dsimp only at h1;cases hy:getA (firstA a2).attrs m with
   | none=>rw[hy] at h1;cases h1
   | some y =>
    rw[hy] at h1;dsimp only at h1;rw[decide_eq_true_eq] at h1;rw[h1]
 have hn:findS s1 name=findS s2 name:=by
  cases hx:findS s1 name with
  | none =>
   have h1:(⟨name,0,1,name⟩:Dg)∈r.diags:=by
    rw[←hr];unfold readS;rw[hx];exact List.mem_singleton.2 rfl
   exact (hdiag _ h1 rfl).symm
  | some x =>
   have h1:name∈r.files:=by
    rw[←hr];unfold readS;rw[hx];exact read_files s1 16 [] name x (firstA a1) (fun m hm=>by simp[firstA] at hm)
   rw[←hx];exact (hfile name h1).1
 have hfit:Fits s1 s2 (firstA a1).attrs (firstA a2).attrs (readS s1 a1 name):=by
  rw[hr];exact⟨fun f hf=>(hfile f hf).1,hdiag,hask⟩
 obtain⟨e1,e2,e3,e4⟩:=readS_alike hfit hn;rw[hr] at e1 e2 e3 e4;obtain⟨g1,g2⟩:=got_congr (a:=(firstA a1).attrs) (b:=(firstA a2).attrs) (l:=sortN r.asked) (fun m hm=>hask m (mem_sortN.1 hm));rw[hc];unfold chapM chapR;rw[e1,e2,e3,e4,g1,g2]
theorem chap_bounds {src:List Sc}{attrs:List At} (h:Fine src attrs) (name:ByteArray):(∀x∈(chapM src attrs name).blocks,BlkSm x)∧(chapM src attrs name).blocks.length≤1000000000∧(chapM src attrs name).diags.length≤1000000000∧(chapM src attrs name).files.length≤1000000000∧(chapM src attrs name).attrs.length≤2000000000∧(chapM src attrs name).unset.length≤2000000000:=by
 have hz:=Fine.src h;have hw:=Fine.wt h name;have hl:=readS_lm hz.1 attrs name;unfold chapM;generalize readS src attrs name=r at *;have hb:=blocks_count r.lines;have hd:=diags_count r.lines;have hk:(sortN r.asked).length=r.asked.length:=by unfold sortN;rw[List.length_map,List.length_mergeSort,List.length_map]
 unfold chapR;dsimp only;refine⟨fun x hx=>(blocks_sm _ r.lines (Nat.le_refl _) hw x hx).1,by omega,?_,by omega,?_,?_⟩
 ·have h1:(firstD name (blocksOf r.lines)).length≤1:=by rw[firstD_eq];split<;>simp
  have h2:(againD (blocksOf r.lines).tail).length≤(blocksOf r.lines).length:=by
   unfold againD;rw[List.length_map];have h3:=List.length_filter_le opensB (blocksOf r.lines).tail;rw[List.length_tail] at h3;omega
  rw[List.length_append,List.length_append,List.length_append];omega
 ·unfold gotA;have:=List.length_filterMap_le (fun n=>(getA (firstA attrs).attrs n).map fun v=>(⟨n,v⟩:At)) (sortN r.asked)
  omega
 ·unfold lackA;have:=List.length_filter_le (fun n=>(getA (firstA attrs).attrs n).isNone) (sortN r.asked)
  omega
end Go.Bd
