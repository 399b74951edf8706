/- part 18 -/
import Derived.Maps.OwnIn
import Derived.Test.YtkkebmciiiajeaaGreatDoorK0
import Derived.Test.YtkkebmciiiajeaaGreatDoorK14
import Derived.Test.YtkkebmciiiajeaaGreatDoorK17
set_option linter.unusedSimpArgs false
set_option linter.unusedVariables false
set_option maxHeartbeats 16000000
set_option maxRecDepth 100000
namespace Go.Proofs.YtkkebmciiiajeaaGreatDoor
open Go.RowKit Go.Bd
theorem blocks_count:∀l:List Ln,(blocksOf l).length≤l.length
 | []=>Nat.le_refl _
 | x::rest=>by
  have h1:=step_one x rest;have h2:=blocks_count (rest.drop (stepR x rest).1);rw[blocksOf_cons,List.length_append,List.length_cons];rw[List.length_drop] at h2;omega
termination_by l=>l.length
decreasing_by simp;omega
theorem diags_count:∀l:List Ln,(diagsOf l).length≤3*wtX l
 | []=>Nat.zero_le _
 | x::rest=>by
  have h1:=step_ds x rest;have h2:=diags_count (rest.drop (stepR x rest).1);have h3:=wtX_split rest (stepR x rest).1;rw[diagsOf_cons,List.length_append,wtX];omega
termination_by l=>l.length
decreasing_by simp;omega
def firstB:List Bl→Bool
 | []=>true
 | b::_=>!opensB b
theorem firstD_eq (name:ByteArray) (bs:List Bl):firstD name bs=if firstB bs then [⟨name,1,13,⟨#[]⟩⟩] else []:=by
 cases bs with
 | nil=>rfl
 | cons b l =>
  show (if opensB b then [] else _)=if (!opensB b)=true then _ else _
  cases opensB b<;>rfl
theorem rowD_snoc (l:List Dg) (d:Dg):rowD (l++[d])=rowD l++dgCells d:=by rw[rowD_append];show _++(dgCells d++[])=_;rw[List.append_nil]
theorem ch_zero (w:World):(zeroValue 32).run Tryz.prog w=.ok (.agg #[.string ⟨#[]⟩,.slice none 0 0,.slice none 0 0,.slice none 0 0,.slice none 0 0,.slice none 0 0]) w:=by kernel_rfl
theorem dgs_under:Tryz.prog.underlying 29=some (.slice tDg):=by kernel_rfl
theorem at_under:Tryz.prog.underlying 23=some (.slice tAt):=by kernel_rfl
theorem row_news {w:World}{b sz n c:Nat}{t:TypeId}{A:Option Addr}{xs:List Value} (h:w.ownsRow b t sz (.slice A n c) n xs) (hn:n=0→sz*n=0→xs=[]):∀(j:Nat) u,xs[j]? = some u→∃ad,A=some ad∧w.cell? (ad.add j)=some u:=fun j u hu=>by
 rcases h.2 with ⟨h1,h2⟩|⟨g,cap,cur,h1,_⟩
 ·subst h2;have:=h.1
  rw[Nat.zero_mul] at this;rw[List.length_eq_zero_iff.1 this] at hu;cases hu
 ·injection h1 with h1 _ _
  subst h1;exact⟨_,rfl,h.cells (g:=g) rfl j u hu⟩
theorem rowD_one:∀{l:List Dg},∀u∈rowD l,u.oneCell'=true
 | [],u,h=>by cases h
 | d::l,u,h=>by
  rw[rowD] at h
  rcases List.mem_append.1 h with h|h
  ·simp only[dgCells,List.mem_cons,List.not_mem_nil,or_false] at h
   rcases h with rfl|rfl|rfl|rfl<;>rfl
  ·exact rowD_one u h
def ChOwn (w:World) (b:Nat) (v:Value) (c:Ch):Prop:=∃Ab nb cb Ad nd cd Af nf cf Aa na ca Au nu cu,v=.agg #[.string c.name,.slice Ab nb cb,.slice Ad nd cd,.slice Af nf cf,.slice Aa na ca,.slice Au nu cu]∧w.ownsRow b tDg 4 (.slice Ad nd cd) c.diags.length (rowD c.diags)
theorem chapter_own {w:World}{S T:Nat→Prop}{sv av:Value}{src:List Sc}{attrs:List At} (hsc:ScS w S sv src) (hat:AtS w T av attrs) (hS:∀k,S k→k<w.heap.size) (hT:∀k,T k→k<w.heap.size) (hsn:src.length≤1000000000) (han:attrs.length≤1000000000)
  (hz:∀s∈src,s.text.size≤99999) (haz:∀a∈attrs,a.name.size≤100000∧a.value.size≤100000) {m:Int} (hg:Glob m w) (h3:3≤w.heap.size) (name:ByteArray) (hnz:name.size≤100000) (hwt:wtX (readS src attrs name).lines≤100000000) :
  Calls Tryz.prog 7 #[sv,av,.string name] w fun e w'=>∃cv,e=.returned cv∧ChAt w' w'.heap.size cv (chapM src attrs name)∧Below w.heap.size w w'∧ChOwn w' w.heap.size cv (chapM src attrs name):=by
 have hzc:=ch_zero;have hlm:=readS_lm hz attrs name;have hB0:=(Below.refl w.heap.size w).alloc (Nat.le_refl _) (.cells #[.string ⟨#[]⟩,.slice none 0 0,.slice none 0 0,.slice none 0 0,.slice none 0 0,.slice none 0 0] 32);have hX0:=Holds.new w 32 #[.string ⟨#[]⟩,.slice none 0 0,.slice none 0 0,.slice none 0 0,.slice none 0 0,.slice none 0 0];obtain⟨W0,hW0⟩:∃W0,w.alloc (.cells #[.string ⟨#[]⟩,.slice none 0 0,.slice none 0 0,.slice none 0 0,.slice none 0 0,.slice none 0 0] 32)=W0:=⟨_,rfl⟩;rw[hW0] at hB0 hX0;have hg0:Glob m W0:=hg.chg (Chg.below hB0 (fun _=>False)) (fun _ h=>h.elim);have hsc0:ScS W0 S sv src:=TwoS.below hsc hB0;have hat0:AtS W0 T av attrs:=TwoS.below hat hB0;have hRd:=aread_any hsc0 hat0 (fun k hk=>Nat.lt_of_lt_of_le (hS k hk) hB0.size) (fun k hk=>Nat.lt_of_lt_of_le (hT k hk) hB0.size) hsn han hz haz hg0 (by have:=hB0.size;omega) name hnz;have hch:chapM src attrs name=chapR (readS src attrs name) (firstA attrs).attrs name:=rfl;obtain⟨r,hr⟩:∃r,readS src attrs name=r:=⟨_,rfl⟩;rw[hr] at hRd hch hlm hwt;obtain⟨q,hq⟩:∃q,w.heap.size=q:=⟨_,rfl⟩;have HH:=hidH8 hRd hat hT hg0 haz hch hB0 hX0;have HW:=hidH2 hW0 hq;clear hsc hat hS hT hz haz hg hsc0 hat0 hRd hr hch hB0 hX0 hg0
 go_enter Tryz.func7,Tryz.ntmps7
 go_wp2_with fail
 (try rw[HW.out.1])
 clear hW0 hq hzc;refine HH.out.1.mono ?_;rintro e W1 ⟨lv,dv,fv,kv,rfl,hl,hd,hf,hk,hb1⟩;obtain⟨Al,cl,hlv,_⟩:=own_rowL hl;obtain⟨Ad,cd,hdv,_⟩:=own_rowL hd;obtain⟨Af,cf,hfv,_⟩:=own_rowL hf;obtain⟨Ak,ck,hkv,_⟩:=own_rowL hk;subst hlv;subst hdv;subst hfv;subst hkv;have hP:=bparse_any (LinesAt.own hl rfl (S:=fun k=>k<W1.heap.size) (fun k hk=>(own_lt hl hk).2)) (fun _ h=>h) (HH.out.2.2.2.1.chg (Chg.below hb1 (fun _=>False)) (fun _ h=>h.elim)) hwt (by omega);have H1:=hidH5 hP hd hf hk hb1;clear hP hd hf hk hb1 hl;obtain⟨nl,hnl⟩:∃nl,r.lines.length=nl:=⟨_,rfl⟩;obtain⟨nd,hnd⟩:∃nd,r.diags.length=nd:=⟨_,rfl⟩;obtain⟨nf,hnf⟩:∃nf,r.files.length=nf:=⟨_,rfl⟩;obtain⟨nk,hnk⟩:∃nk,(sortN r.asked).length=nk:=⟨_,rfl⟩;rw[hnl] at H1;rw[hnd] at H1;rw[hnf] at H1;rw[hnk] at H1;rw[hnl,hnd,hnf,hnk];have HN:=hidH4 hnl hnd hnf hnk;have hlm2:nl≤16384∧nd≤32769∧nf≤16385∧nk≤1638416384:=by
  rw[←hnl,←hnd,←hnf,←hnk];unfold sortN;rw[List.length_map,List.length_mergeSort,List.length_map];exact hlm
 clear hnl hnd hnf hnk hlm
 go_wp2_with fail
 refine H1.out.1.mono ?_;rintro e W2 ⟨O,F,rb,bv,dv2,rfl,hR,hO,hF,hb2⟩;obtain⟨Ab,cb,hbv⟩:=hR.bform;obtain⟨Ae,ce,hdv2⟩:=hR.dform;subst hbv;subst hdv2;have hbc:=blocks_count r.lines;have hdc:=diags_count r.lines;rw[HN.out.1] at hbc;obtain⟨bs,hbs⟩:∃bs,blocksOf r.lines=bs:=⟨_,rfl⟩;obtain⟨es,hes⟩:∃es,diagsOf r.lines=es:=⟨_,rfl⟩;rw[hbs] at hR hbc;rw[hes] at hR hdc;rw[hbs,hes];obtain⟨nb,hnb⟩:∃nb,bs.length=nb:=⟨_,rfl⟩;obtain⟨ne,hne⟩:∃ne,es.length=ne:=⟨_,rfl⟩;rw[hnb] at hR hbc;rw[hne] at hR hdc;rw[hnb,hne];have hblk:∀W,Below W2.heap.size W2 W→∀(k:Nat) x,bs[k]? = some x→∃g sA sc rA rc,Ab=some ⟨g,0,none⟩∧Forest W (· < W2.heap.size) (.slice sA x.spans.length sc) x.spans ∧
   W.cell? ⟨g,k*9,none⟩=some (.int .u8 (x.kind:Int))∧W.cell? ⟨g,k*9+1,none⟩=some (.int .i64 (x.level:Int))∧W.cell? ⟨g,k*9+2,none⟩=some (.bool x.ordered)∧W.cell? ⟨g,k*9+3,none⟩=some (.string x.label)∧W.cell? ⟨g,k*9+4,none⟩=some (.string x.text) ∧
   W.cell? ⟨g,k*9+5,none⟩=some (.slice sA x.spans.length sc)∧W.cell? ⟨g,k*9+6,none⟩=some (.slice rA x.rows.length rc)∧W.cell? ⟨g,k*9+7,none⟩=some (.string x.file)∧W.cell? ⟨g,k*9+8,none⟩=some (.int .i64 x.line):=fun W hW k x hx=>by
  obtain⟨g,sA,sc,rA,rc,h1,h2,h3,_,c0,c1,c2,c3,c4,c5,c6,c7,c8⟩:=hR.blk_at hx;have hgl:=hR.ltO g h2;exact⟨g,sA,sc,rA,rc,h1,h3.chg (Chg.below hW (fun _=>False)) (fun k hk=>hR.ltF k hk) (fun _ _ h=>h),(hW.cell (p:=⟨g,k*9,none⟩) hgl).trans c0,(hW.cell (p:=⟨g,k*9+1,none⟩) hgl).trans c1,(hW.cell (p:=⟨g,k*9+2,none⟩) hgl).trans c2,(hW.cell (p:=⟨g,k*9+3,none⟩) hgl).trans c3,(hW.cell (p:=⟨g,k*9+4,none⟩) hgl).trans c4,(hW.cell (p:=⟨g,k*9+5,none⟩) hgl).trans c5,(hW.cell (p:=⟨g,k*9+6,none⟩) hgl).trans c6,(hW.cell (p:=⟨g,k*9+7,none⟩) hgl).trans c7,(hW.cell (p:=⟨g,k*9+8,none⟩) hgl).trans c8⟩
 have hend:∀(W:World) (S:Nat→Prop),Chg W2 W S→(∀k,S k→k<W1.heap.size∨W2.heap.size≤k)→BlocksAt W W.heap.size (.slice Ab nb cb) bs:=fun W S hW hS=>by
  obtain⟨kvs,hkl,hbrow,htrees⟩:=hR.bl;rw[←hnb] at hbrow ⊢;refine BlocksAt.own (hW.owns hbrow (fun k hk hs=>?_)) hkl (fun j x kv hx hk=>?_) (Nat.le_refl _)
  ·have h1:=(hR.oB k (by rw[←hnb];exact hk)).1;have h2:=hO k h1;have h3:=hR.ltO k h1
   rcases hS k hs with h|h<;>omega
  ·exact TreesAt.chg (F:=F) (G:=(· < W.heap.size)) htrees hW (fun k hk=>Nat.lt_of_lt_of_le (hR.ltF k hk) hW.size) (fun k hk hs=>by have h2:=hF k hk;have h3:=hR.ltF k hk;rcases hS k hs with h|h<;>omega) j x kv hx hk
 have hdrow:W2.ownsRow 0 tDg 4 (.slice Ae ne ce) ne (rowD es):=by have h:=hR.dg;rw[hne] at h;exact h
 have hb12:Below w.heap.size w W2:=by
  have h1:=HH.out.2.2.2.2.2.2.1;have h2:=h1.trans (H1.out.2.2.2.2.mono h1.size);exact h2.trans (hb2.mono h2.size)
 obtain⟨C,hC⟩:∃C,W2.heap.size=C:=⟨_,rfl⟩;have hX3:=Holds.new W2 32 #[.string name,.slice Ab nb cb,.slice none 0 0,.slice Af nf cf,.slice none 0 0,.slice none 0 0];have hB3:=(Below.refl W2.heap.size W2).alloc (Nat.le_refl _) (.cells #[.string name,.slice Ab nb cb,.slice none 0 0,.slice Af nf cf,.slice none 0 0,.slice none 0 0] 32);have hs3:(W2.alloc (.cells #[.string name,.slice Ab nb cb,.slice none 0 0,.slice Af nf cf,.slice none 0 0,.slice none 0 0] 32)).heap.size=C+1:=by rw[World.size_alloc,hC]
 obtain⟨W3,hW3⟩:∃W3,W2.alloc (.cells #[.string name,.slice Ab nb cb,.slice none 0 0,.slice Af nf cf,.slice none 0 0,.slice none 0 0] 32)=W3:=⟨_,rfl⟩;rw[hW3] at hX3 hB3 hs3;rw[hC] at hX3 hB3;have hch3:ChR W3 C name (.slice Ab nb cb) (.slice Af nf cf) (.slice none 0 0) (.slice none 0 0) (.slice none 0 0) [] [] []:=⟨hX3,own_nil _ _ _ _,own_nil _ _ _ _,own_nil _ _ _ _,(fun k hk=>by cases hk),(fun k hk=>by cases hk),(fun k hk=>by cases hk)⟩;have hd3:W3.ownsRow 0 tDg 4 (.slice Ad nd cd) nd (rowD r.diags):=by
  have h1:=(Chg.below hb2 (fun _=>False)).owns H1.out.2.1 (fun _ _ h=>h);exact (Chg.below (hC ▸ hB3) (fun _=>False)).owns (own_up h1 (fun k _=>Nat.zero_le k)) (fun _ _ h=>h)
 obtain⟨i0,hi0,hz0,hz1,hz2⟩:=info_parts diagA_info;have HI:=hidH4 hi0 hz0 hz1 hz2;have H2:=hidH10 hblk hend hdrow hb12 hbs hes hnb hne hb2 hC;have H3:=hidH5 hch3 hd3 hB3 hs3 (row_news hd3 (fun h _=>List.length_eq_zero_iff.1 (by rw[rowD_length,HN.out.2.1,h])));have hc2:=hX3.cell 2;simp at hc2;have HW3:=hidH2 hW3 hC;clear hW3 hR hO hF hb2 hblk hend hdrow hb12 hbs hes hnb hne hC hX3 hB3 hs3 hch3 hd3 hi0 hz0 hz1 hz2
 go_upto_region 4 with fail
 (try rw[HW3.out.1])
 (try rw[HW3.out.2])
 go_upto_region 5 with (at_builtin;refine wpList_append_all (by rfl) _ _ _ (by rfl) (C+1) 51 i0 _ 4 48 dgs_under HI.out.1 HI.out.2.1 HI.out.2.2.1 HI.out.2.2.2 rfl (by omega) (.slice none 0 0) 0 [] (by rfl) (own_nil _ _ _ _) Ad nd cd (rowD r.diags) (by rfl) (by rw[rowD_length,HN.out.2.1]) H3.out.2.2.2.2 (fun u hu=>rowD_one u hu) nd (Nat.zero_add nd) (rowD r.diags) (by rfl) (by unfold maxLen;omega) (by omega) (by rw[H3.out.2.2.2.1];exact Nat.le_refl _) ?_;intro A4 c4 w4 ho4 hg4 hat4;have hC4:Chg W3 w4 (fun k=>(Value.slice none 0 0).ownBlock=some k):=(Chg.refl W3 _).trans (Chg.grown hg4) (fun _ _ h=>h.symm);have hh4:=hC4.holds (fun e=>by cases e) H3.out.1.hold;have k4:=hh4.cell 2;have f4:=hh4.free 2;simp at k4;have H4:=hidH3 hC4 ho4 hat4;clear hC4 ho4 hat4 hg4 hh4)
 obtain⟨W5,hW5⟩:∃W5,w4.setCell ⟨C,2,none⟩ (.slice A4 nd c4)=W5:=⟨_,rfl⟩;have hch5:=ChR.set_d (ds':=r.diags) H3.out.1 H4.out.1 (by rw[HN.out.2.1];exact H4.out.2.1) (fun k hk=>(H4.out.2.2 k hk).imp id (fun e=>Nat.le_of_eq e.symm));rw[hW5] at hch5;have hB5:Below C W2 W5:=H3.out.2.2.1.trans hch5.2;have hs5:C+1≤W5.heap.size:=Nat.le_trans (Nat.le_of_eq H3.out.2.2.2.1.symm) hch5.2.size;have he5:W5.ownsRow 0 tDg 4 (.slice Ae ne ce) ne (rowD es):=(Chg.below (H2.out.2.2.2.2.2.2.2.2.2 ▸ hB5) (fun _=>False)).owns H2.out.2.2.1 (fun _ _ h=>h);have hc2:=hch5.1.hold.cell 2;simp at hc2;have H5:=hidH4 hch5.1 hB5 hs5 (row_news he5 (fun h _=>List.length_eq_zero_iff.1 (by rw[rowD_length,H2.out.2.2.2.2.2.2.2.1,h])));have HW5:=Lib.hid hW5;clear hch5 hB5 hs5 he5 k4 f4
 go_upto_region 6 with (at_builtin;refine wpList_append_all (by rfl) _ _ _ (by rfl) (C+1) 51 i0 _ 4 48 dgs_under HI.out.1 HI.out.2.1 HI.out.2.2.1 HI.out.2.2.2 rfl (by omega) (.slice A4 nd c4) nd (rowD r.diags) (by rfl) (HN.out.2.1 ▸ H5.out.1.d) Ae ne ce (rowD es) (by rfl) (by rw[rowD_length,H2.out.2.2.2.2.2.2.2.1]) H5.out.2.2.2 (fun u hu=>rowD_one u hu) (nd+ne) rfl (rowD (r.diags++es)) (by rw[rowD_append]) (by unfold maxLen;omega) (by omega) H5.out.2.2.1 ?_;intro A6 c6 w6 ho6 hg6 hat6;have hC6:Chg W5 w6 (fun k=>(Value.slice A4 nd c4).ownBlock=some k):=(Chg.refl W5 _).trans (Chg.grown hg6) (fun _ _ h=>h.symm);have hh6:=hC6.holds (fun e=>by have h1:=(own_lt H5.out.1.d e).1;omega) H5.out.1.hold;have k6:=hh6.cell 2;have f6:=hh6.free 2;simp at k6;have H6:=hidH3 hC6 ho6 hat6;clear hC6 ho6 hat6 hg6 hh6)
 obtain⟨W7,hW7⟩:∃W7,w6.setCell ⟨C,2,none⟩ (.slice A6 (nd+ne) c6)=W7:=⟨_,rfl⟩;have hdl:(r.diags++es).length=nd+ne:=by rw[List.length_append,HN.out.2.1,H2.out.2.2.2.2.2.2.2.1]
 have hch7:=ChR.set_d (ds':=r.diags++es) H5.out.1 H6.out.1 (by rw[hdl];exact H6.out.2.1) (fun k hk=>(H6.out.2.2 k hk).imp id (fun e=>Nat.le_of_eq e.symm));rw[hW7] at hch7;have hB7:Below C W2 W7:=H5.out.2.1.trans hch7.2;have hs7:C+1≤W7.heap.size:=Nat.le_trans H5.out.2.2.1 hch7.2.size;have hB72:Below W2.heap.size W2 W7:=by rw[H2.out.2.2.2.2.2.2.2.2.2];exact hB7
 obtain⟨ds0,hds0⟩:∃ds0,r.diags++es=ds0:=⟨_,rfl⟩;obtain⟨n0,hn0⟩:∃n0,nd+ne=n0:=⟨_,rfl⟩;have hn0b:n0≤310000000:=by omega
 rw[hds0,hn0] at hch7;rw[hds0,hn0] at hdl;rw[hn0] at hW7;rw[hn0];have H7:=hidH6 hch7.1 hB7 hs7 hB72 hds0 hdl;have HW7:=Lib.hid hW7;clear hch7 hB7 hs7 hB72 hds0 hdl f6 k6 hc2 hn0 H6 H5 H4 H3 HW5 HW3 hW5
 (try rw[HW7.out])
 clear hW7
 go_cut [57] (fun s57 wx=>s57=.bool (firstB bs)∧Hid (Below W7.heap.size W7 wx))
 case first =>
  obtain hb|⟨x,rest,hb⟩:bs=[]∨∃x rest,bs=x::rest:=by
   cases bs with
   | nil=>exact .inl rfl
   | cons x l=>exact .inr ⟨x,l,rfl⟩
  ·have hnb0:nb=0:=by rw[←H2.out.2.2.2.2.2.2.1,hb];rfl
   subst hnb0;have HB:=Lib.hid hb;clear hb
   go_wp2_with fail
   go_meet
   case rel=>exact⟨by rw[HB.out];rfl,Lib.hid (Below.refl _ _)⟩
  ·have hnb1:1≤nb:=by rw[←H2.out.2.2.2.2.2.2.1,hb];simp
   have hfb:firstB bs=!opensB x:=by rw[hb];rfl
   obtain⟨g,sA,sc,rA,rc,hAb,hfo,c0,c1,c2,c3,c4,c5,c6,c7,c8⟩:=H2.out.1 W7 H7.out.2.2.2.1 0 x (by rw[hb];rfl);subst hAb;simp only[Nat.zero_mul,Nat.zero_add] at c0 c1 c2 c3 c4 c5 c6 c7 c8;have ho:=opens_any x (.slice sA x.spans.length sc,.slice rA x.rows.length rc) W7;unfold blCells at ho;have HO:=hidH2 ho hfb;have hi1:¬nb=0:=by omega
   have hi2:(0:Int)<(nb:Int):=by omega
   clear ho hfb hfo hb
   go_wp2_with (go_at_call 18;refine HO.out.1.mono ?_;rintro e w8 ⟨rfl,hb8⟩)
   go_meet
   case rel =>
    have e:((nb:Int)==0)=false:=by simp;omega
    exact⟨by rw[HO.out.2,e,Bool.false_or],Lib.hid hb8⟩
 case rest =>
  obtain⟨h57,HB8⟩:=hcut;subst h57;have hch8:=H7.out.1.below HB8.out;have hB8:Below C W2 wc:=H7.out.2.1.trans (HB8.out.mono (by have:=H7.out.2.2.1;omega));have hs8:C+1≤wc.heap.size:=Nat.le_trans H7.out.2.2.1 HB8.out.size;have H8:=hidH3 hch8 hB8 hs8;clear hch8 hB8 hs8;obtain⟨fb,hfb⟩:∃fb,firstB bs=fb:=⟨_,rfl⟩;have hfd:=firstD_eq name bs;rw[hfb] at hfd ⊢;have HFB:=Lib.hid hfd;clear hfb hfd
  go_upto_if 57 with fail
  go_cut [] (fun wx=>Hid (∃A9 c9,ChR wx C name (.slice Ab nb cb) (.slice Af nf cf) (.slice A9 (ds0++firstD name bs).length c9) (.slice none 0 0) (.slice none 0 0) (ds0++firstD name bs) [] []∧Below C W2 wx∧C+1≤wx.heap.size))
  case first =>
   cases fb
   ·go_wp2_with fail
    go_meet
    case rel =>
     refine Lib.hid ⟨A6,c6,?_,H8.out.2.1,H8.out.2.2⟩;rw[HFB.out,if_neg (by decide),List.append_nil,H7.out.2.2.2.2.2];exact H8.out.1
   ·have hc2:=H8.out.1.hold.cell 2;simp at hc2;have hCl:C<wc.heap.size:=by have:=H8.out.2.2;omega
    have e2:(wc.alloc (.cells #[.string name,.int .i64 1,.int .i64 13,.string ⟨#[]⟩] 51)).cell? ⟨C,2,none⟩=some (.slice A6 n0 c6):=by rw[World.cell?_alloc_lt _ _ _ hCl];exact hc2
    have hD:wc.ownsRow (C+1) tDg 4 (.slice A6 n0 c6) n0 (rowD ds0):=by have h:=H8.out.1.d;rw[H7.out.2.2.2.2.2] at h;exact h
    have HD:=hidH2 hD hCl;clear hD
    go_wp2_with (at_builtin;refine wpList_append_lies _ rfl _ _ 29 rfl (C+1) 51 i0 _ 4 48 dgs_under HI.out.1 HI.out.2.1 HI.out.2.2.1 HI.out.2.2.2 rfl (by omega) (.slice A6 n0 c6) n0 (rowD ds0) (by rfl) (HD.out.1.alloc _) ⟨wc.heap.size,0,none⟩ 1 1 [.string name,.int .i64 1,.int .i64 13,.string ⟨#[]⟩] rfl rfl (World.news_of_block (cs:=#[.string name,.int .i64 1,.int .i64 13,.string ⟨#[]⟩]) (t:=51) (fr:=(0,0)) (heap_alloc_new wc _)) (by simp[Value.oneCell']) (by omega) (by unfold maxLen;omega) (by omega) (by simp;omega) (wc.heap.size+1) (by simp) ?_;intro g cap w9 ho9 hg9 hat9 hl9;have hC9:Chg wc w9 (fun k=>(Value.slice A6 n0 c6).ownBlock=some k):=((Chg.refl wc _).alloc _).trans (Chg.grown hg9) (fun _ _ h=>h.symm);have hh9:=hC9.holds (fun e=>by have h1:=(own_lt HD.out.1 e).1;omega) H8.out.1.hold;have k9:=hh9.cell 2;have f9:=hh9.free 2;simp at k9;have H9:=hidH4 hC9 ho9 hat9 hl9;clear hC9 ho9 hat9 hg9 hh9 hl9)
    go_meet
    case rel =>
     have hsd:=ChR.set_d (D':=.slice (some ⟨g,0,none⟩) (n0+1) cap) (ds':=ds0++[⟨name,1,13,⟨#[]⟩⟩]) H8.out.1 H9.out.1 (by
      rw[rowD_snoc,List.length_append,List.length_singleton,H7.out.2.2.2.2.2];exact H9.out.2.1) (fun k hk=>by
      have e1:g=k:=by simpa [Value.ownBlock] using hk
      rw[←e1]
      rcases H9.out.2.2.1 with h|h
      ·exact .inl h
      ·exact .inr (by omega))
     refine Lib.hid ⟨some ⟨g,0,none⟩,cap,?_,H8.out.2.1.trans hsd.2,Nat.le_trans H8.out.2.2 hsd.2.size⟩;rw[HFB.out]
     first|rw[if_pos rfl]|rw[if_pos trivial]
     rw[List.length_append,H7.out.2.2.2.2.2];exact hsd.1
  case rest =>
   obtain⟨A9,c9,h9⟩:=hcut.out;have hb9:Below W2.heap.size W2 wc:=by have:=h9.2.1;rw[H2.out.2.2.2.2.2.2.2.2.2];exact this
   obtain⟨ds1,hds1⟩:∃ds1,ds0++firstD name bs=ds1:=⟨_,rfl⟩;rw[hds1] at h9;have hds1l:ds1.length≤n0+1:=by
    rw[←hds1,List.length_append,H7.out.2.2.2.2.2,firstD_eq];split<;>simp
   obtain⟨n1,hn1⟩:∃n1,ds1.length=n1:=⟨_,rfl⟩;rw[hn1] at h9 hds1l;have H9:=hidH3 h9 hds1 hn1;clear h9 hb9 hds1 hn1 hcut HFB H8
   go_wp2_with fail
   go_loopg [67] nb (fun q i wr=>∃(k:Nat) (A9:Option Addr) (c9 n9:Nat),k+q=nb∧i=.int .i64 (k:Int)∧n9≤n1+k∧Hid (ChR wr C name (.slice Ab nb cb) (.slice Af nf cf) (.slice A9 n9 c9) (.slice none 0 0) (.slice none 0 0) (ds1++againD (bs.take k).tail) [] []∧Below C W2 wr∧C+1≤wr.heap.size∧(ds1++againD (bs.take k).tail).length=n9))
   case atStart =>
    have e:ds1++againD (bs.take 0).tail=ds1:=by unfold againD;simp
    exact⟨0,A9,c9,n1,by omega,rfl,Nat.le_refl _,Lib.hid ⟨by rw[e];exact H9.out.1.1,H9.out.1.2.1,H9.out.1.2.2,by rw[e];exact H9.out.2.2⟩⟩
   case round =>
    obtain⟨k,A9,c9,n9,hk,rfl,hn9,HR⟩:=hrel
    by_cases hlt:k<nb
    ·obtain⟨x,hx⟩:∃x,bs[k]? = some x:=⟨_,List.getElem?_eq_getElem (by have:=H2.out.2.2.2.2.2.2.1;omega)⟩;have hbw:Below W2.heap.size W2 wr:=by have h:=HR.out.2.1;rw[H2.out.2.2.2.2.2.2.2.2.2];exact h
     obtain⟨g,sA,sc,rA,rc,hAb,hfo,c0,c1,c2,c3,c4,c5,c6,c7,c8⟩:=H2.out.1 wr hbw k x hx;subst hAb;have hbl:=blocks_sm _ r.lines (Nat.le_refl _) hwt x (by rw[H2.out.2.2.2.2.1];exact List.mem_of_getElem? hx);have hPl:∀W,Below wr.heap.size wr W→Calls Tryz.prog 19 #[.slice sA x.spans.length sc] W fun e w'=>e=.returned (.string ⟨(sayL x.spans).toArray⟩)∧Below W.heap.size W w':=fun W hW=>Plain_any x.spans hbl.1.1 hbl.2 _ W (hfo.chg (Chg.below hW (fun _=>False)) (fun k hk=>by have h1:=hW.size;have h2:=hbw.size;omega) (fun _ _ h=>h))
     have htk:bs.take (k+1)=bs.take k++[x]:=by rw[List.take_add_one,hx];rfl
     have hBx:=(Below.refl wr.heap.size wr).alloc (Nat.le_refl _) (.cells #[.int .u8 (x.kind:Int),.int .i64 (x.level:Int),.bool x.ordered,.string x.label,.string x.text,.slice sA x.spans.length sc,.slice rA x.rows.length rc,.string x.file,.int .i64 x.line] 62);have hXx:=Holds.new wr 62 #[.int .u8 (x.kind:Int),.int .i64 (x.level:Int),.bool x.ordered,.string x.label,.string x.text,.slice sA x.spans.length sc,.slice rA x.rows.length rc,.string x.file,.int .i64 x.line];have hch6:=HR.out.1.below hBx;have hs6:(wr.alloc (.cells #[.int .u8 (x.kind:Int),.int .i64 (x.level:Int),.bool x.ordered,.string x.label,.string x.text,.slice sA x.spans.length sc,.slice rA x.rows.length rc,.string x.file,.int .i64 x.line] 62)).heap.size=wr.heap.size+1:=World.size_alloc _ _;have ho:=opens_any x (.slice sA x.spans.length sc,.slice rA x.rows.length rc) (wr.alloc (.cells #[.int .u8 (x.kind:Int),.int .i64 (x.level:Int),.bool x.ordered,.string x.label,.string x.text,.slice sA x.spans.length sc,.slice rA x.rows.length rc,.string x.file,.int .i64 x.line] 62));unfold blCells at ho;dsimp only at ho;have hBC:Below C W2 (wr.alloc (.cells #[.int .u8 (x.kind:Int),.int .i64 (x.level:Int),.bool x.ordered,.string x.label,.string x.text,.slice sA x.spans.length sc,.slice rA x.rows.length rc,.string x.file,.int .i64 x.line] 62)):=HR.out.2.1.alloc (by have:=HR.out.2.2.1;omega) _;obtain⟨W6,hW6⟩:∃W6,wr.alloc (.cells #[.int .u8 (x.kind:Int),.int .i64 (x.level:Int),.bool x.ordered,.string x.label,.string x.text,.slice sA x.spans.length sc,.slice rA x.rows.length rc,.string x.file,.int .i64 x.line] 62)=W6:=⟨_,rfl⟩
     obtain⟨p,hp⟩:∃p,wr.heap.size=p:=⟨_,rfl⟩;rw[hW6] at hXx hch6 hs6 ho hBC hBx;rw[hp] at hXx hs6;obtain⟨ob,hob⟩:∃ob,opensB x=ob:=⟨_,rfl⟩;rw[hob] at ho;obtain⟨tx,htx⟩:∃tx,(⟨(sayL x.spans).toArray⟩:ByteArray)=tx:=⟨_,rfl⟩;rw[htx] at hPl;have hnine:∀W,Below W6.heap.size W6 W→W.cell? ⟨p,0,none⟩=some (.int .u8 (x.kind:Int))∧W.cell? ⟨p,1,none⟩=some (.int .i64 (x.level:Int))∧W.cell? ⟨p,2,none⟩=some (.bool x.ordered)∧W.cell? ⟨p,3,none⟩=some (.string x.label)∧W.cell? ⟨p,4,none⟩=some (.string x.text)∧W.cell? ⟨p,5,none⟩=some (.slice sA x.spans.length sc)∧W.cell? ⟨p,6,none⟩=some (.slice rA x.rows.length rc)∧W.cell? ⟨p,7,none⟩=some (.string x.file)∧W.cell? ⟨p,8,none⟩=some (.int .i64 x.line):=fun W hW=>by
      have h:=hXx.below hW (by omega);have a0:=h.cell 0;have a1:=h.cell 1;have a2:=h.cell 2;have a3:=h.cell 3;have a4:=h.cell 4;have a5:=h.cell 5;have a6:=h.cell 6;have a7:=h.cell 7;have a8:=h.cell 8;simp at a0 a1 a2 a3 a4 a5 a6 a7 a8;exact⟨a0,a1,a2,a3,a4,a5,a6,a7,a8⟩
     obtain⟨q0,q1,q2,q3,q4,q5,q6,q7,q8⟩:=hnine W6 (Below.refl _ _);have HP:=hidH8 hPl ho hnine htx htk hob hBx hs6;have H6:=hidH2 hch6 hBC;have HW6:=hidH2 hW6 hp;clear hbw hfo hbl hPl htk hBx hXx hch6 hs6 ho hBC hob htx hnine hx
     by_cases hk0:k=0
     ·subst hk0;simp only[Nat.zero_mul,Nat.zero_add] at c0 c1 c2 c3 c4 c5 c6 c7 c8
      go_wp2_with fail
      (try rw[HW6.out.1])
      go_roundg (gk-1)
      case measure=>omega
      case rel =>
       refine⟨1,A9,c9,n9,by omega,by go_num,by omega,Lib.hid ?_⟩;have e:(bs.take 1).tail=(bs.take 0).tail:=by
        have h:=HP.out.2.2.2.2.1;rw[List.take_zero,List.nil_append] at h;rw[show (1:Nat)=0+1 from rfl,h];rfl
       rw[e];exact⟨H6.out.1,H6.out.2,by have:=HP.out.2.2.2.2.2.2.2;have:=HR.out.2.2.1;have:=HW6.out.2;omega,HR.out.2.2.2⟩
     ·have hki:(0:Int)<(k:Int):=by omega
      have htl:(bs.take (k+1)).tail=(bs.take k).tail++[x]:=by
       rw[HP.out.2.2.2.2.1];have hne:bs.take k≠[]:=fun e=>by have h:=congrArg List.length e;rw[List.length_take,H2.out.2.2.2.2.2.2.1] at h;simp at h;omega
       exact List.tail_append_of_ne_nil hne
      have HTL:=Lib.hid htl;clear htl;cases ob
      ·go_wp2_with (go_at_call 18;refine HP.out.2.1.mono ?_;rintro e w8 ⟨rfl,hb8⟩)
       go_roundg (gk-1)
       case measure=>omega
       case rel =>
        refine⟨k+1,A9,c9,n9,by omega,by go_num,by omega,Lib.hid ?_⟩;have e:againD (bs.take (k+1)).tail=againD (bs.take k).tail:=by
         rw[HTL.out,againD_snoc,HP.out.2.2.2.2.2.1,if_neg (by decide),List.append_nil]
        rw[e];exact⟨H6.out.1.below hb8,H6.out.2.trans (hb8.mono (by have:=HP.out.2.2.2.2.2.2.2;have:=HR.out.2.2.1;have:=HW6.out.2;omega)),by have:=HP.out.2.2.2.2.2.2.2;have:=HR.out.2.2.1;have:=HW6.out.2;have:=hb8.size;omega,HR.out.2.2.2⟩
      ·go_wp2_with (go_at_call 18;refine HP.out.2.1.mono ?_;rintro e w8 ⟨rfl,hb8⟩)
       obtain⟨ds2,hds2⟩:∃ds2,ds1++againD (bs.take k).tail=ds2:=⟨_,rfl⟩;have hn8:=HP.out.2.2.1 w8 hb8;have d5:=hn8.2.2.2.2.2.1;have d7:=hn8.2.2.2.2.2.2.2.1;have d8:=hn8.2.2.2.2.2.2.2.2;have hch8:=H6.out.1.below hb8;rw[hds2] at hch8;have hc2:=hch8.hold.cell 2;simp at hc2;have hs8:p+1≤w8.heap.size:=by have:=HP.out.2.2.2.2.2.2.2;have:=hb8.size;omega
       have hpC:C+1≤p:=by have:=HR.out.2.2.1;have:=HW6.out.2;omega
       have hb68:Below wr.heap.size wr w8:=HP.out.2.2.2.2.2.2.1.trans (hb8.mono HP.out.2.2.2.2.2.2.1.size);have hlen:ds2.length=n9:=by rw[←hds2];exact HR.out.2.2.2
       have hBC8:Below C W2 w8:=H6.out.2.trans (hb8.mono (by have:=HP.out.2.2.2.2.2.2.2;omega));have H8:=hidH5 hch8 hb68 hlen hds2 hBC8;have hnp:(Value.slice A9 n9 c9).ownBlock≠some p:=fun e=>by have h1:=(own_lt HR.out.1.d e).2;have h2:=HW6.out.2;omega
       have HNP:=Lib.hid hnp;clear hnp hn8 hch8 hb68 hlen hds2 hBC8 hb8 q0 q1 q2 q3 q4 q5 q6 q7 q8 c0 c1 c2 c3 c4 c5 c6 c7 c8 hW6
       go_upto_region 12 with fail
       refine wp_region_held_drew (S:=(fun w'=>w'.cell? ⟨p,7,none⟩=some (.string x.file)∧w'.cell? ⟨p,8,none⟩=some (.int .i64 x.line)∧w'.cell? ⟨p,5,none⟩=some (.slice sA x.spans.length sc))) (by kernel_rfl) ?_ (fun hHeld0=>?_)
       ·(try dsimp only)
        first|exact⟨d7,d8,d5⟩|exact D9|exact E9|exact G9|exact K9
       refine tkH 0 78 ?_;refine tkH 2 80 ?_;refine tkH 3 81 ?_;refine tkH 4 82 ?_;refine tkH 5 83 ?_;refine tkH 6 84 ?_;refine tkH 7 85 ?_;refine rdyH [1,8] ?_;refine AllReadyH.cons (o:=⟨some 79,_,_,_,_,_⟩) rfl (fun K hK=>?_) ?_
       ·skip
        go_simp;refine hK.out _ _ ?_ (fun hHeld1=>?_)
        ·(try dsimp only)
         first|exact⟨d7,d8,d5⟩|exact D9|exact E9|exact G9|exact K9
        clear hK K hHeld0
        (try go_frame)
        refine rdyH [8] ?_;refine AllReadyH.cons (o:=⟨some 86,_,_,_,_,_⟩) rfl (fun K hK=>?_) AllReadyH.nil;go_simp;refine (HP.out.1 _ (H8.out.2.1.trans (((Below.refl w8.heap.size w8).drew).mono H8.out.2.1.size))).mono ?_;rintro e w9 ⟨rfl,hb9⟩;have hb89:Below w8.heap.size w8 w9:=((Below.refl w8.heap.size w8).drew).trans hb9;have D9:w9.cell? ⟨p,7,none⟩=some (.string x.file)∧w9.cell? ⟨p,8,none⟩=some (.int .i64 x.line)∧w9.cell? ⟨p,5,none⟩=some (.slice sA x.spans.length sc):=⟨(hb89.cell (p:=⟨p,7,none⟩) hs8).trans d7,(hb89.cell (p:=⟨p,8,none⟩) hs8).trans d8,(hb89.cell (p:=⟨p,5,none⟩) hs8).trans d5⟩;have hch9:=H8.out.1.below hb89;have e92:=hch9.hold.cell 2;simp at e92;have hs9:p<w9.heap.size:=Nat.lt_of_lt_of_le hs8 hb89.size;have hCl:C<w9.heap.size:=by omega
        have E9:(w9.alloc (.cells #[.string x.file,.int .i64 x.line,.int .i64 13,.string tx] 51)).cell? ⟨p,7,none⟩=some (.string x.file)∧(w9.alloc (.cells #[.string x.file,.int .i64 x.line,.int .i64 13,.string tx] 51)).cell? ⟨p,8,none⟩=some (.int .i64 x.line)∧(w9.alloc (.cells #[.string x.file,.int .i64 x.line,.int .i64 13,.string tx] 51)).cell? ⟨p,5,none⟩=some (.slice sA x.spans.length sc) :=
         ⟨by rw[World.cell?_alloc_lt _ _ _ hs9];exact D9.1,by rw[World.cell?_alloc_lt _ _ _ hs9];exact D9.2.1,by rw[World.cell?_alloc_lt _ _ _ hs9];exact D9.2.2⟩
        have e93:(w9.alloc (.cells #[.string x.file,.int .i64 x.line,.int .i64 13,.string tx] 51)).cell? ⟨C,2,none⟩=some (.slice A9 n9 c9):=by rw[World.cell?_alloc_lt _ _ _ hCl];exact e92
        have H9:=hidH2 hch9 (H8.out.2.2.2.2.trans (hb89.mono (by omega)));clear hch9 hb89 hb9;refine hK.out _ _ ?_ (fun hHeld2=>?_)
        ·(try dsimp only)
         first|exact⟨d7,d8,d5⟩|exact D9|exact E9|exact G9|exact K9
        clear hK K hHeld1
        (try go_frame)
        refine tkH 9 87 ?_;refine rdyH [10] ?_;refine AllReadyH.cons (o:=⟨some 88,_,_,_,_,_⟩) rfl (fun K hK=>?_) AllReadyH.nil;go_simp;refine hK.out _ _ ?_ (fun hHeld3=>?_)
        ·(try dsimp only)
         first|exact⟨d7,d8,d5⟩|exact D9|exact E9|exact G9|exact K9
        clear hK K hHeld2
        (try go_frame)
        refine rdyH [11] ?_;refine AllReadyH.cons (o:=⟨some 89,_,_,_,_,_⟩) rfl (fun K hK=>?_) AllReadyH.nil;have hrow:w9.ownsRow (C+1) 51 4 (.slice A9 n9 c9) n9 (rowD ds2):=by have h:=H9.out.1.d;rw[H8.out.2.2.1] at h;exact h
        refine step_append_lies _ (by rfl) _ _ _ (by rfl) (C+1) 51 i0 _ 4 48 dgs_under HI.out.1 HI.out.2.1 HI.out.2.2.1 HI.out.2.2.2 rfl (by omega) (.slice A9 n9 c9) n9 (rowD ds2) (by rfl) (hrow.alloc _)
         ⟨w9.heap.size,0,none⟩ 1 1 [.string x.file,.int .i64 x.line,.int .i64 13,.string tx] (by rfl) (by rfl) (World.news_of_block (cs:=#[.string x.file,.int .i64 x.line,.int .i64 13,.string tx]) (t:=51) (fr:=(0,0)) (heap_alloc_new w9 _)) (by simp[Value.oneCell'])
         (by omega) (by unfold maxLen;omega) (by omega) (by simp;omega) (w9.heap.size+1) (by simp) ?_
        intro g2 cap w10 ho10 hg10 hat10 hl10;have hC10:Chg w9 w10 (fun k=>(Value.slice A9 n9 c9).ownBlock=some k):=((Chg.refl w9 _).alloc _).trans (Chg.grown hg10) (fun _ _ h=>h.symm);have hpr:(Value.slice A9 n9 c9).ownBlock≠some C:=fun e=>by have h1:=(own_lt hrow e).1;omega
        have hh10:=hC10.holds hpr H9.out.1.hold;have k10:=hh10.cell 2;have f10:=hh10.free 2;simp at k10;have G9:w10.cell? ⟨p,7,none⟩=some (.string x.file)∧w10.cell? ⟨p,8,none⟩=some (.int .i64 x.line)∧w10.cell? ⟨p,5,none⟩=some (.slice sA x.spans.length sc):=⟨hC10.cell (p:=⟨p,7,none⟩) HNP.out D9.1,hC10.cell (p:=⟨p,8,none⟩) HNP.out D9.2.1,hC10.cell (p:=⟨p,5,none⟩) HNP.out D9.2.2⟩;have hCp:C≠p:=by omega
        have K9:(w10.setCell ⟨C,2,none⟩ (.slice (some ⟨g2,0,none⟩) (n9+1) cap)).cell? ⟨p,7,none⟩=some (.string x.file)∧(w10.setCell ⟨C,2,none⟩ (.slice (some ⟨g2,0,none⟩) (n9+1) cap)).cell? ⟨p,8,none⟩=some (.int .i64 x.line)∧(w10.setCell ⟨C,2,none⟩ (.slice (some ⟨g2,0,none⟩) (n9+1) cap)).cell? ⟨p,5,none⟩=some (.slice sA x.spans.length sc) :=
         ⟨cell_far (g:=C) (i:=2) (j:=7) hCp _ G9.1,cell_far (g:=C) (i:=2) (j:=8) hCp _ G9.2.1,cell_far (g:=C) (i:=2) (j:=5) hCp _ G9.2.2⟩
        have H10:=hidH4 hC10 ho10 hat10 hl10;clear hC10 ho10 hat10 hg10 hl10 hh10 hrow hpr hCp;refine hK.out _ _ ?_ (fun hHeld4=>?_)
        ·(try dsimp only)
         first|exact⟨d7,d8,d5⟩|exact D9|exact E9|exact G9|exact K9
        clear hK K hHeld3
        (try go_frame)
        refine tkH 12 90 ?_;refine rdyH [13] ?_;refine AllReadyH.cons rfl (fun K hK=>?_) AllReadyH.nil;go_simp;refine hK.out _ _ ?_ (fun hHeld5=>?_)
        ·(try dsimp only)
         first|exact⟨d7,d8,d5⟩|exact D9|exact E9|exact G9|exact K9
        clear hK K hHeld4
        (try go_frame)
        refine wpAnyH_done (by kernel_rfl) ?_ _
        go_wp2_with fail
        go_roundg (gk-1)
        case measure=>omega
        case rel =>
         have hsd:=ChR.set_d (D':=.slice (some ⟨g2,0,none⟩) (n9+1) cap) (ds':=ds2++[⟨x.file,x.line,13,tx⟩]) H9.out.1 H10.out.1 (by
          rw[rowD_snoc,List.length_append,List.length_singleton,H8.out.2.2.1];exact H10.out.2.1) (fun k hk=>by
          have e1:g2=k:=by simpa [Value.ownBlock] using hk
          rw[←e1]
          rcases H10.out.2.2.1 with h|h
          ·exact .inl h
          ·exact .inr (by omega))
         have e:ds1++againD (bs.take (k+1)).tail=ds2++[⟨x.file,x.line,13,tx⟩]:=by
          rw[HTL.out,againD_snoc,HP.out.2.2.2.2.2.1]
          first|rw[if_pos rfl]|rw[if_pos trivial]
          rw[←List.append_assoc,H8.out.2.2.2.1,←HP.out.2.2.2.1];rfl
         refine⟨k+1,some ⟨g2,0,none⟩,cap,n9+1,by omega,by go_num,by omega,Lib.hid ?_⟩;rw[e];refine⟨hsd.1,H9.out.2.trans hsd.2,Nat.le_trans (by omega) hsd.2.size,?_⟩;rw[List.length_append,List.length_singleton,H8.out.2.2.1]
       refine AllReadyH.cons (o:=⟨some 86,_,_,_,_,_⟩) rfl (fun K hK=>?_) AllReadyH.nil;go_simp;refine (HP.out.1 _ (H8.out.2.1.trans (((Below.refl w8.heap.size w8).drew).mono H8.out.2.1.size))).mono ?_;rintro e w9 ⟨rfl,hb9⟩;have hb89:Below w8.heap.size w8 w9:=((Below.refl w8.heap.size w8).drew).trans hb9;have D9:w9.cell? ⟨p,7,none⟩=some (.string x.file)∧w9.cell? ⟨p,8,none⟩=some (.int .i64 x.line)∧w9.cell? ⟨p,5,none⟩=some (.slice sA x.spans.length sc):=⟨(hb89.cell (p:=⟨p,7,none⟩) hs8).trans d7,(hb89.cell (p:=⟨p,8,none⟩) hs8).trans d8,(hb89.cell (p:=⟨p,5,none⟩) hs8).trans d5⟩;have hch9:=H8.out.1.below hb89;have e92:=hch9.hold.cell 2;simp at e92;have hs9:p<w9.heap.size:=Nat.lt_of_lt_of_le hs8 hb89.size;have hCl:C<w9.heap.size:=by omega
       have E9:(w9.alloc (.cells #[.string x.file,.int .i64 x.line,.int .i64 13,.string tx] 51)).cell? ⟨p,7,none⟩=some (.string x.file)∧(w9.alloc (.cells #[.string x.file,.int .i64 x.line,.int .i64 13,.string tx] 51)).cell? ⟨p,8,none⟩=some (.int .i64 x.line)∧(w9.alloc (.cells #[.string x.file,.int .i64 x.line,.int .i64 13,.string tx] 51)).cell? ⟨p,5,none⟩=some (.slice sA x.spans.length sc) :=
        ⟨by rw[World.cell?_alloc_lt _ _ _ hs9];exact D9.1,by rw[World.cell?_alloc_lt _ _ _ hs9];exact D9.2.1,by rw[World.cell?_alloc_lt _ _ _ hs9];exact D9.2.2⟩
       have e93:(w9.alloc (.cells #[.string x.file,.int .i64 x.line,.int .i64 13,.string tx] 51)).cell? ⟨C,2,none⟩=some (.slice A9 n9 c9):=by rw[World.cell?_alloc_lt _ _ _ hCl];exact e92
       have H9:=hidH2 hch9 (H8.out.2.2.2.2.trans (hb89.mono (by omega)));clear hch9 hb89 hb9;refine hK.out _ _ ?_ (fun hHeld1=>?_)
       ·(try dsimp only)
        first|exact⟨d7,d8,d5⟩|exact D9|exact E9|exact G9|exact K9
       clear hK K hHeld0
       (try go_frame)
       refine tkH 9 87 ?_;refine rdyH [1,10] ?_;refine AllReadyH.cons (o:=⟨some 79,_,_,_,_,_⟩) rfl (fun K hK=>?_) ?_
       ·skip
        go_simp;refine hK.out _ _ ?_ (fun hHeld2=>?_)
        ·(try dsimp only)
         first|exact⟨d7,d8,d5⟩|exact D9|exact E9|exact G9|exact K9
        clear hK K hHeld1
        (try go_frame)
        refine rdyH [10] ?_;refine AllReadyH.cons (o:=⟨some 88,_,_,_,_,_⟩) rfl (fun K hK=>?_) AllReadyH.nil;go_simp;refine hK.out _ _ ?_ (fun hHeld3=>?_)
        ·(try dsimp only)
         first|exact⟨d7,d8,d5⟩|exact D9|exact E9|exact G9|exact K9
        clear hK K hHeld2
        (try go_frame)
        refine rdyH [11] ?_;refine AllReadyH.cons (o:=⟨some 89,_,_,_,_,_⟩) rfl (fun K hK=>?_) AllReadyH.nil;have hrow:w9.ownsRow (C+1) 51 4 (.slice A9 n9 c9) n9 (rowD ds2):=by have h:=H9.out.1.d;rw[H8.out.2.2.1] at h;exact h
        refine step_append_lies _ (by rfl) _ _ _ (by rfl) (C+1) 51 i0 _ 4 48 dgs_under HI.out.1 HI.out.2.1 HI.out.2.2.1 HI.out.2.2.2 rfl (by omega) (.slice A9 n9 c9) n9 (rowD ds2) (by rfl) (hrow.alloc _)
         ⟨w9.heap.size,0,none⟩ 1 1 [.string x.file,.int .i64 x.line,.int .i64 13,.string tx] (by rfl) (by rfl) (World.news_of_block (cs:=#[.string x.file,.int .i64 x.line,.int .i64 13,.string tx]) (t:=51) (fr:=(0,0)) (heap_alloc_new w9 _)) (by simp[Value.oneCell'])
         (by omega) (by unfold maxLen;omega) (by omega) (by simp;omega) (w9.heap.size+1) (by simp) ?_
        intro g2 cap w10 ho10 hg10 hat10 hl10;have hC10:Chg w9 w10 (fun k=>(Value.slice A9 n9 c9).ownBlock=some k):=((Chg.refl w9 _).alloc _).trans (Chg.grown hg10) (fun _ _ h=>h.symm);have hpr:(Value.slice A9 n9 c9).ownBlock≠some C:=fun e=>by have h1:=(own_lt hrow e).1;omega
        have hh10:=hC10.holds hpr H9.out.1.hold;have k10:=hh10.cell 2;have f10:=hh10.free 2;simp at k10;have G9:w10.cell? ⟨p,7,none⟩=some (.string x.file)∧w10.cell? ⟨p,8,none⟩=some (.int .i64 x.line)∧w10.cell? ⟨p,5,none⟩=some (.slice sA x.spans.length sc):=⟨hC10.cell (p:=⟨p,7,none⟩) HNP.out D9.1,hC10.cell (p:=⟨p,8,none⟩) HNP.out D9.2.1,hC10.cell (p:=⟨p,5,none⟩) HNP.out D9.2.2⟩;have hCp:C≠p:=by omega
        have K9:(w10.setCell ⟨C,2,none⟩ (.slice (some ⟨g2,0,none⟩) (n9+1) cap)).cell? ⟨p,7,none⟩=some (.string x.file)∧(w10.setCell ⟨C,2,none⟩ (.slice (some ⟨g2,0,none⟩) (n9+1) cap)).cell? ⟨p,8,none⟩=some (.int .i64 x.line)∧(w10.setCell ⟨C,2,none⟩ (.slice (some ⟨g2,0,none⟩) (n9+1) cap)).cell? ⟨p,5,none⟩=some (.slice sA x.spans.length sc) :=
         ⟨cell_far (g:=C) (i:=2) (j:=7) hCp _ G9.1,cell_far (g:=C) (i:=2) (j:=8) hCp _ G9.2.1,cell_far (g:=C) (i:=2) (j:=5) hCp _ G9.2.2⟩
        have H10:=hidH4 hC10 ho10 hat10 hl10;clear hC10 ho10 hat10 hg10 hl10 hh10 hrow hpr hCp;refine hK.out _ _ ?_ (fun hHeld4=>?_)
        ·(try dsimp only)
         first|exact⟨d7,d8,d5⟩|exact D9|exact E9|exact G9|exact K9
        clear hK K hHeld3
        (try go_frame)
        refine tkH 12 90 ?_;refine rdyH [13] ?_;refine AllReadyH.cons rfl (fun K hK=>?_) AllReadyH.nil;go_simp;refine hK.out _ _ ?_ (fun hHeld5=>?_)
        ·(try dsimp only)
         first|exact⟨d7,d8,d5⟩|exact D9|exact E9|exact G9|exact K9
        clear hK K hHeld4
        (try go_frame)
        refine wpAnyH_done (by kernel_rfl) ?_ _
        go_wp2_with fail
        go_roundg (gk-1)
        case measure=>omega
        case rel =>
         have hsd:=ChR.set_d (D':=.slice (some ⟨g2,0,none⟩) (n9+1) cap) (ds':=ds2++[⟨x.file,x.line,13,tx⟩]) H9.out.1 H10.out.1 (by
          rw[rowD_snoc,List.length_append,List.length_singleton,H8.out.2.2.1];exact H10.out.2.1) (fun k hk=>by
          have e1:g2=k:=by simpa [Value.ownBlock] using hk
          rw[←e1]
          rcases H10.out.2.2.1 with h|h
          ·exact .inl h
          ·exact .inr (by omega))
         have e:ds1++againD (bs.take (k+1)).tail=ds2++[⟨x.file,x.line,13,tx⟩]:=by
          rw[HTL.out,againD_snoc,HP.out.2.2.2.2.2.1]
          first|rw[if_pos rfl]|rw[if_pos trivial]
          rw[←List.append_assoc,H8.out.2.2.2.1,←HP.out.2.2.2.1];rfl
         refine⟨k+1,some ⟨g2,0,none⟩,cap,n9+1,by omega,by go_num,by omega,Lib.hid ?_⟩;rw[e];refine⟨hsd.1,H9.out.2.trans hsd.2,Nat.le_trans (by omega) hsd.2.size,?_⟩;rw[List.length_append,List.length_singleton,H8.out.2.2.1]
       refine AllReadyH.cons (o:=⟨some 88,_,_,_,_,_⟩) rfl (fun K hK=>?_) AllReadyH.nil;go_simp;refine hK.out _ _ ?_ (fun hHeld2=>?_)
       ·(try dsimp only)
        first|exact⟨d7,d8,d5⟩|exact D9|exact E9|exact G9|exact K9
       clear hK K hHeld1
       (try go_frame)
       refine rdyH [1] ?_;refine AllReadyH.cons (o:=⟨some 79,_,_,_,_,_⟩) rfl (fun K hK=>?_) AllReadyH.nil;go_simp;refine hK.out _ _ ?_ (fun hHeld3=>?_)
       ·(try dsimp only)
        first|exact⟨d7,d8,d5⟩|exact D9|exact E9|exact G9|exact K9
       clear hK K hHeld2
       (try go_frame)
       refine rdyH [11] ?_;refine AllReadyH.cons (o:=⟨some 89,_,_,_,_,_⟩) rfl (fun K hK=>?_) AllReadyH.nil;have hrow:w9.ownsRow (C+1) 51 4 (.slice A9 n9 c9) n9 (rowD ds2):=by have h:=H9.out.1.d;rw[H8.out.2.2.1] at h;exact h
       refine step_append_lies _ (by rfl) _ _ _ (by rfl) (C+1) 51 i0 _ 4 48 dgs_under HI.out.1 HI.out.2.1 HI.out.2.2.1 HI.out.2.2.2 rfl (by omega) (.slice A9 n9 c9) n9 (rowD ds2) (by rfl) (hrow.alloc _)
        ⟨w9.heap.size,0,none⟩ 1 1 [.string x.file,.int .i64 x.line,.int .i64 13,.string tx] (by rfl) (by rfl) (World.news_of_block (cs:=#[.string x.file,.int .i64 x.line,.int .i64 13,.string tx]) (t:=51) (fr:=(0,0)) (heap_alloc_new w9 _)) (by simp[Value.oneCell'])
        (by omega) (by unfold maxLen;omega) (by omega) (by simp;omega) (w9.heap.size+1) (by simp) ?_
       intro g2 cap w10 ho10 hg10 hat10 hl10;have hC10:Chg w9 w10 (fun k=>(Value.slice A9 n9 c9).ownBlock=some k):=((Chg.refl w9 _).alloc _).trans (Chg.grown hg10) (fun _ _ h=>h.symm);have hpr:(Value.slice A9 n9 c9).ownBlock≠some C:=fun e=>by have h1:=(own_lt hrow e).1;omega
       have hh10:=hC10.holds hpr H9.out.1.hold;have k10:=hh10.cell 2;have f10:=hh10.free 2;simp at k10;have G9:w10.cell? ⟨p,7,none⟩=some (.string x.file)∧w10.cell? ⟨p,8,none⟩=some (.int .i64 x.line)∧w10.cell? ⟨p,5,none⟩=some (.slice sA x.spans.length sc):=⟨hC10.cell (p:=⟨p,7,none⟩) HNP.out D9.1,hC10.cell (p:=⟨p,8,none⟩) HNP.out D9.2.1,hC10.cell (p:=⟨p,5,none⟩) HNP.out D9.2.2⟩;have hCp:C≠p:=by omega
       have K9:(w10.setCell ⟨C,2,none⟩ (.slice (some ⟨g2,0,none⟩) (n9+1) cap)).cell? ⟨p,7,none⟩=some (.string x.file)∧(w10.setCell ⟨C,2,none⟩ (.slice (some ⟨g2,0,none⟩) (n9+1) cap)).cell? ⟨p,8,none⟩=some (.int .i64 x.line)∧(w10.setCell ⟨C,2,none⟩ (.slice (some ⟨g2,0,none⟩) (n9+1) cap)).cell? ⟨p,5,none⟩=some (.slice sA x.spans.length sc) :=
        ⟨cell_far (g:=C) (i:=2) (j:=7) hCp _ G9.1,cell_far (g:=C) (i:=2) (j:=8) hCp _ G9.2.1,cell_far (g:=C) (i:=2) (j:=5) hCp _ G9.2.2⟩
       have H10:=hidH4 hC10 ho10 hat10 hl10;clear hC10 ho10 hat10 hg10 hl10 hh10 hrow hpr hCp;refine hK.out _ _ ?_ (fun hHeld4=>?_)
       ·(try dsimp only)
        first|exact⟨d7,d8,d5⟩|exact D9|exact E9|exact G9|exact K9
       clear hK K hHeld3
       (try go_frame)
       refine tkH 12 90 ?_;refine rdyH [13] ?_;refine AllReadyH.cons rfl (fun K hK=>?_) AllReadyH.nil;go_simp;refine hK.out _ _ ?_ (fun hHeld5=>?_)
       ·(try dsimp only)
        first|exact⟨d7,d8,d5⟩|exact D9|exact E9|exact G9|exact K9
       clear hK K hHeld4
       (try go_frame)
       refine wpAnyH_done (by kernel_rfl) ?_ _
       go_wp2_with fail
       go_roundg (gk-1)
       case measure=>omega
       case rel =>
        have hsd:=ChR.set_d (D':=.slice (some ⟨g2,0,none⟩) (n9+1) cap) (ds':=ds2++[⟨x.file,x.line,13,tx⟩]) H9.out.1 H10.out.1 (by
         rw[rowD_snoc,List.length_append,List.length_singleton,H8.out.2.2.1];exact H10.out.2.1) (fun k hk=>by
         have e1:g2=k:=by simpa [Value.ownBlock] using hk
         rw[←e1]
         rcases H10.out.2.2.1 with h|h
         ·exact .inl h
         ·exact .inr (by omega))
        have e:ds1++againD (bs.take (k+1)).tail=ds2++[⟨x.file,x.line,13,tx⟩]:=by
         rw[HTL.out,againD_snoc,HP.out.2.2.2.2.2.1]
         first|rw[if_pos rfl]|rw[if_pos trivial]
         rw[←List.append_assoc,H8.out.2.2.2.1,←HP.out.2.2.2.1];rfl
        refine⟨k+1,some ⟨g2,0,none⟩,cap,n9+1,by omega,by go_num,by omega,Lib.hid ?_⟩;rw[e];refine⟨hsd.1,H9.out.2.trans hsd.2,Nat.le_trans (by omega) hsd.2.size,?_⟩;rw[List.length_append,List.length_singleton,H8.out.2.2.1]
    ·obtain rfl:k=nb:=by omega
     obtain⟨wO,hwO⟩:∃x,x=wr:=⟨_,rfl⟩;subst hwO;have hC2:=H2.out.2.2.2.2.2.2.2.2.2;have hbO:Below W2.heap.size W2 wO:=by rw[hC2];exact HR.out.2.1
     have hbwO:Below w.heap.size w wO:=H2.out.2.2.2.1.trans (hbO.mono H2.out.2.2.2.1.size);have hatO:AtS wO T av attrs:=TwoS.below HH.out.2.1 hbwO;have hAl:=allowed_any hatO (fun k hk=>Nat.lt_of_lt_of_le (HH.out.2.2.1 k hk) hbwO.size) han HH.out.2.2.2.2.1;obtain⟨dsF,hdsF⟩:∃dsF,ds1++againD bs.tail=dsF:=⟨_,rfl⟩;have hbk:bs.take k=bs:=List.take_of_length_le (by rw[H2.out.2.2.2.2.2.2.1];exact Nat.le_refl _);have hRO:=HR.out;rw[hbk,hdsF] at hRO;obtain⟨ks,hks⟩:∃ks,sortN r.asked=ks:=⟨_,rfl⟩;have hkrow:W2.ownsRow 0 tTx 1 (.slice Ak nk ck) nk (rowTx ks):=by
      have h:=(Chg.below H2.out.2.2.2.2.2.2.2.2.1 (fun _=>False)).owns H1.out.2.2.2.1 (fun _ _ h=>h);rw[←hks];exact own_up h (fun k _=>Nat.zero_le k)
     have hkl:ks.length=nk:=by rw[←hks];exact HN.out.2.2.2
     have hkc:∀W,Below W2.heap.size W2 W→∀(i:Nat) n,ks[i]? = some n→∃g,Ak=some ⟨g,0,none⟩∧W.cell? ⟨g,i,none⟩=some (.string n):=fun W hW i n hn=>by
      have h:=(Chg.below hW (fun _=>False)).owns hkrow (fun _ _ h=>h);obtain⟨g,cap,e,_,_,_,h2,_⟩:=own_rowN h (by have:=(List.getElem?_eq_some_iff.1 hn).1;omega);injection e with e1 _ _
      exact⟨g,e1,h2 i (.string n) (by unfold rowTx;rw[List.getElem?_map,hn];rfl)⟩
     obtain⟨cb2,hcb2⟩:∃cb2,checkB attrs=cb2:=⟨_,rfl⟩;obtain⟨av2,hav2⟩:∃av2,(if checkB attrs then av else .slice none 0 0)=av2:=⟨_,rfl⟩;obtain⟨a2,ha2⟩:∃a2,(firstA attrs).attrs=a2:=⟨_,rfl⟩;have hat2:∀W,Below w.heap.size w W→AtS W T av2 a2:=fun W hW=>by
      rw[←hav2,←ha2];unfold firstA;dsimp only;split
      ·exact TwoS.below HH.out.2.1 hW
      ·exact TwoS.nil _ _
     have ha2l:a2.length≤1000000000:=by
      rw[←ha2];unfold firstA;dsimp only;split
      ·exact han
      ·exact Nat.zero_le _
     rw[hav2] at hAl;have HO:=hidH11 hAl hRO hbO hbwO hkc hkl hat2 ha2 hks hdsF hC2;clear hAl hRO hbO hbwO hkc hkl hat2 ha2 hks hdsF hC2 hatO hbk hkrow hav2 hcb2 hk hlt
     go_wp2_with fail
     refine HO.out.1.mono ?_;rintro e w8 ⟨rfl,hb8⟩;have h8:ChR w8 C name (.slice Ab k cb) (.slice Af nf cf) (.slice A9 n9 c9) (.slice none 0 0) (.slice none 0 0) dsF [] []∧Below C W2 w8∧C+1≤w8.heap.size:=⟨HO.out.2.1.1.below hb8,HO.out.2.1.2.1.trans (hb8.mono (by have:=HO.out.2.1.2.2.1;omega)),Nat.le_trans HO.out.2.1.2.2.1 hb8.size⟩;have H8:=Lib.hid h8;clear h8 hb8
     go_wp2_with fail
     go_loopg [96] nk (fun q i wr=>∃(j:Nat) (A10 A11:Option Addr) (c10 n10 c11 n11:Nat),j+q=nk∧i=.int .i64 (j:Int)∧n10≤j∧n11≤j∧Hid (ChR wr C name (.slice Ab k cb) (.slice Af nf cf) (.slice A9 n9 c9) (.slice A10 n10 c10) (.slice A11 n11 c11) dsF (gotA a2 (ks.take j)) (lackA a2 (ks.take j))∧Below C W2 wr∧C+1≤wr.heap.size∧(gotA a2 (ks.take j)).length=n10∧(lackA a2 (ks.take j)).length=n11))
     case atStart=>exact⟨0,none,none,0,0,0,0,by omega,rfl,Nat.le_refl _,Nat.le_refl _,Lib.hid ⟨H8.out.1,H8.out.2.1,H8.out.2.2,rfl,rfl⟩⟩
     case round =>
      obtain⟨j,A10,A11,c10,n10,c11,n11,hj,rfl,hn10,hn11,HL⟩:=hrel;have hbr:Below W2.heap.size W2 wr:=by rw[HO.out.2.2.2.2.2.2.2.2.2.2];exact HL.out.2.1
      by_cases hjt:j<nk
      ·obtain⟨nm,hnm⟩:∃nm,ks[j]? = some nm:=⟨_,List.getElem?_eq_getElem (by have:=HO.out.2.2.2.2.2.1;omega)⟩;obtain⟨g,hAk,c0⟩:=HO.out.2.2.2.2.1 wr hbr j nm hnm;subst hAk;have hbwr:Below w.heap.size w wr:=H2.out.2.2.2.1.trans (hbr.mono H2.out.2.2.2.1.size);have hG:=Get_any (HO.out.2.2.2.2.2.2.1 wr hbwr) (fun k hk=>Nat.lt_of_lt_of_le (HH.out.2.2.1 k hk) hbwr.size) ha2l nm;have htk:ks.take (j+1)=ks.take j++[nm]:=by rw[List.take_add_one,hnm];rfl
       obtain⟨i1,hi1,hy0,hy1,hy2⟩:=info_parts atA_info;obtain⟨i2,hi2,hx0,hx1,hx2⟩:=info_parts txA_info;have HI1:=hidH4 hi1 hy0 hy1 hy2;have HI2:=hidH4 hi2 hx0 hx1 hx2;have HJ:=hidH2 hbwr htk;clear hi1 hy0 hy1 hy2 hi2 hx0 hx1 hx2 hbwr htk hnm;cases hga:getA a2 nm with
       | some v =>
        rw[hga] at hG;unfold getV at hG;have HG:=hidH2 hG hga;clear hG hga
        go_wp2_with fail
        refine HG.out.1.mono ?_;rintro e w9 ⟨rfl,hb9⟩;have hch9:=HL.out.1.below hb9;have hBC9:Below C W2 w9:=HL.out.2.1.trans (hb9.mono (by have:=HL.out.2.2.1;omega));have hs9:C+1≤w9.heap.size:=Nat.le_trans HL.out.2.2.1 hb9.size;have hc4:=hch9.hold.cell 4;simp at hc4;have hCl:C<w9.heap.size:=hs9;have e4:(w9.alloc (.cells #[.string nm,.string v] 47)).cell? ⟨C,4,none⟩=some (.slice A10 n10 c10):=by rw[World.cell?_alloc_lt _ _ _ hCl];exact hc4
        have hA:w9.ownsRow (C+1) 47 2 (.slice A10 n10 c10) n10 (rowAt (gotA a2 (ks.take j))):=by have h:=hch9.a;rw[HL.out.2.2.2.1] at h;exact h
        have H9:=hidH4 hch9 hBC9 hs9 hA;clear hch9 hBC9 hs9 hA hb9
        go_wp2_with (at_builtin;refine wpList_append_lies _ rfl _ _ 23 rfl (C+1) 47 i1 _ 2 32 at_under HI1.out.1 HI1.out.2.1 HI1.out.2.2.1 HI1.out.2.2.2 rfl (by omega) (.slice A10 n10 c10) n10 (rowAt (gotA a2 (ks.take j))) (by rfl) (H9.out.2.2.2.alloc _) ⟨w9.heap.size,0,none⟩ 1 1 [.string nm,.string v] rfl rfl (World.news_of_block (cs:=#[.string nm,.string v]) (t:=47) (fr:=(0,0)) (heap_alloc_new w9 _)) (by simp[Value.oneCell']) (by omega) (by unfold maxLen;omega) (by omega) (by simp;omega) (w9.heap.size+1) (by simp) ?_;intro g2 cap w10 ho10 hg10 hat10 hl10;have hC10:Chg w9 w10 (fun k=>(Value.slice A10 n10 c10).ownBlock=some k):=((Chg.refl w9 _).alloc _).trans (Chg.grown hg10) (fun _ _ h=>h.symm);have hh10:=hC10.holds (fun e=>by have h1:=(own_lt H9.out.2.2.2 e).1;omega) H9.out.1.hold;have k10:=hh10.cell 4;have f10:=hh10.free 4;simp at k10;have H10:=hidH4 hC10 ho10 hat10 hl10;clear hC10 ho10 hat10 hg10 hh10 hl10)
        go_roundg (gk-1)
        case measure=>omega
        case rel =>
         have egot:gotA a2 (ks.take (j+1))=gotA a2 (ks.take j)++[⟨nm,v⟩]:=by rw[HJ.out.2,gotA_snoc,HG.out.2]
         have elack:lackA a2 (ks.take (j+1))=lackA a2 (ks.take j):=by rw[HJ.out.2,lackA_snoc,HG.out.2];exact List.append_nil _
         have hsd:=ChR.set_a (A':=.slice (some ⟨g2,0,none⟩) (n10+1) cap) (ats':=gotA a2 (ks.take j)++[⟨nm,v⟩]) H9.out.1 H10.out.1 (by
          rw[List.length_append,List.length_singleton,HL.out.2.2.2.1];have er:rowAt (gotA a2 (ks.take j)++[⟨nm,v⟩])=rowAt (gotA a2 (ks.take j))++[.string nm,.string v]:=by unfold rowAt;rw[List.flatMap_append];simp[atCells]
          rw[er];exact H10.out.2.1) (fun k hk=>by
          have e1:g2=k:=by simpa [Value.ownBlock] using hk
          rw[←e1]
          rcases H10.out.2.2.1 with h|h
          ·exact .inl h
          ·exact .inr (by omega))
         refine⟨j+1,some ⟨g2,0,none⟩,A11,cap,n10+1,c11,n11,by omega,by go_num,by omega,by omega,Lib.hid ?_⟩;rw[egot,elack];refine⟨hsd.1,H9.out.2.1.trans hsd.2,Nat.le_trans H9.out.2.2.1 hsd.2.size,?_,HL.out.2.2.2.2⟩;rw[List.length_append,List.length_singleton,HL.out.2.2.2.1]
       | none =>
        rw[hga] at hG;unfold getV at hG;have HG:=hidH2 hG hga;clear hG hga
        go_wp2_with fail
        refine HG.out.1.mono ?_;rintro e w9 ⟨rfl,hb9⟩;have hch9:=HL.out.1.below hb9;have hBC9:Below C W2 w9:=HL.out.2.1.trans (hb9.mono (by have:=HL.out.2.2.1;omega));have hs9:C+1≤w9.heap.size:=Nat.le_trans HL.out.2.2.1 hb9.size;have hc5:=hch9.hold.cell 5;simp at hc5;have hCl:C<w9.heap.size:=hs9;have e5:(w9.alloc (.cells #[.string nm] 9)).cell? ⟨C,5,none⟩=some (.slice A11 n11 c11):=by rw[World.cell?_alloc_lt _ _ _ hCl];exact hc5
        have hU:w9.ownsRow (C+1) 9 1 (.slice A11 n11 c11) n11 (rowTx (lackA a2 (ks.take j))):=by have h:=hch9.u;rw[HL.out.2.2.2.2] at h;exact h
        have H9:=hidH4 hch9 hBC9 hs9 hU;clear hch9 hBC9 hs9 hU hb9
        go_wp2_with (at_builtin;refine wpList_append_lies _ rfl _ _ 30 rfl (C+1) 9 i2 _ 1 16 txs_underA HI2.out.1 HI2.out.2.1 HI2.out.2.2.1 HI2.out.2.2.2 rfl (by omega) (.slice A11 n11 c11) n11 (rowTx (lackA a2 (ks.take j))) (by rfl) (H9.out.2.2.2.alloc _) ⟨w9.heap.size,0,none⟩ 1 1 [.string nm] rfl rfl (World.news_of_block (cs:=#[.string nm]) (t:=9) (fr:=(0,0)) (heap_alloc_new w9 _)) (by simp[Value.oneCell']) (by omega) (by unfold maxLen;omega) (by omega) (by simp;omega) (w9.heap.size+1) (by simp) ?_;intro g2 cap w10 ho10 hg10 hat10 hl10;have hC10:Chg w9 w10 (fun k=>(Value.slice A11 n11 c11).ownBlock=some k):=((Chg.refl w9 _).alloc _).trans (Chg.grown hg10) (fun _ _ h=>h.symm);have hh10:=hC10.holds (fun e=>by have h1:=(own_lt H9.out.2.2.2 e).1;omega) H9.out.1.hold;have k10:=hh10.cell 5;have f10:=hh10.free 5;simp at k10;have H10:=hidH4 hC10 ho10 hat10 hl10;clear hC10 ho10 hat10 hg10 hh10 hl10)
        go_roundg (gk-1)
        case measure=>omega
        case rel =>
         have egot:gotA a2 (ks.take (j+1))=gotA a2 (ks.take j):=by rw[HJ.out.2,gotA_snoc,HG.out.2];exact List.append_nil _
         have elack:lackA a2 (ks.take (j+1))=lackA a2 (ks.take j)++[nm]:=by rw[HJ.out.2,lackA_snoc,HG.out.2]
         have hsd:=ChR.set_u (U':=.slice (some ⟨g2,0,none⟩) (n11+1) cap) (us':=lackA a2 (ks.take j)++[nm]) H9.out.1 H10.out.1 (by
          rw[List.length_append,List.length_singleton,HL.out.2.2.2.2];have er:rowTx (lackA a2 (ks.take j)++[nm])=rowTx (lackA a2 (ks.take j))++[.string nm]:=by unfold rowTx;simp
          rw[er];exact H10.out.2.1) (fun k hk=>by
          have e1:g2=k:=by simpa [Value.ownBlock] using hk
          rw[←e1]
          rcases H10.out.2.2.1 with h|h
          ·exact .inl h
          ·exact .inr (by omega))
         refine⟨j+1,A10,some ⟨g2,0,none⟩,c10,n10,cap,n11+1,by omega,by go_num,by omega,by omega,Lib.hid ?_⟩;rw[egot,elack];refine⟨hsd.1,H9.out.2.1.trans hsd.2,Nat.le_trans H9.out.2.2.1 hsd.2.size,HL.out.2.2.2.1,?_⟩;rw[List.length_append,List.length_singleton,HL.out.2.2.2.2]
      ·obtain rfl:j=nk:=by omega
       have b01:=H1.out.2.2.2.2;have b02:=b01.trans (H2.out.2.2.2.2.2.2.2.2.1.mono b01.size);have b0r:=b02.trans (hbr.mono b02.size);have hXq:=HH.out.2.2.2.2.2.2.2.below b0r HH.out.2.2.2.2.2.2.2.lt;rw[HW.out.2] at hXq;have hbwr:Below w.heap.size w wr:=H2.out.2.2.2.1.trans (hbr.mono H2.out.2.2.2.1.size);have hqC:q<C:=by
        have h1:=HH.out.2.2.2.2.2.2.2.lt;have h2:=b02.size;have h3:=HO.out.2.2.2.2.2.2.2.2.2.2;have h4:=HW.out.2;omega
       have a0:=HL.out.1.hold.cell 0;have a1:=HL.out.1.hold.cell 1;have a2':=HL.out.1.hold.cell 2;have a3:=HL.out.1.hold.cell 3;have a4:=HL.out.1.hold.cell 4;have a5:=HL.out.1.hold.cell 5;have d0:=hXq.cell 0;have d1:=hXq.cell 1;have d2:=hXq.cell 2;have d3:=hXq.cell 3;have d4:=hXq.cell 4;have d5:=hXq.cell 5;have f0:=hXq.free 0;have f1:=hXq.free 1;have f2:=hXq.free 2;have f3:=hXq.free 3;have f4:=hXq.free 4;have f5:=hXq.free 5;simp at a0 a1 a2' a3 a4 a5 d0 d1 d2 d3 d4 d5;have HE:=hidH2 hbwr hqC;have h6:=(((((hXq.set 0 (.string name)).set 1 (.slice Ab k cb)).set 2 (.slice A9 n9 c9)).set 3 (.slice Af nf cf)).set 4 (.slice A10 n10 c10)).set 5 (.slice A11 n11 c11);have s6:=(((((Chg.set wr ⟨q,0,none⟩ (.string name)).trans (Chg.set _ ⟨q,1,none⟩ (.slice Ab k cb)) (fun _ _ h=>h)).trans (Chg.set _ ⟨q,2,none⟩ (.slice A9 n9 c9)) (fun _ _ h=>h)).trans (Chg.set _ ⟨q,3,none⟩ (.slice Af nf cf)) (fun _ _ h=>h)).trans (Chg.set _ ⟨q,4,none⟩ (.slice A10 n10 c10)) (fun _ _ h=>h)).trans (Chg.set _ ⟨q,5,none⟩ (.slice A11 n11 c11)) (fun _ _ h=>h);have hq0:q<W0.heap.size:=by have h1:=HH.out.2.2.2.2.2.2.2.lt;have h4:=HW.out.2;omega
       have hq1:q<W1.heap.size:=Nat.lt_of_lt_of_le hq0 b01.size;have hfrow:=(Chg.below (b02.trans (hbr.mono b02.size) |> fun _=>hbr) (fun _=>False)).owns ((Chg.below H2.out.2.2.2.2.2.2.2.2.1 (fun _=>False)).owns H1.out.2.2.1 (fun _ _ h=>h)) (fun _ _ h=>h);have HS:=hidH6 h6 s6 hq0 hq1 hfrow hbr;clear hbwr b01 b02 b0r hXq hbr hj hjt h6 s6 hq0 hq1 hfrow
       go_wp2_with fail
       refine bodyPost_ret (results_cell_row rfl _ _ q _ _ _ _ rfl HS.out.1 Tryz.underlying32 rfl (by kernel_rfl)) rfl ?_;have hcM:chapM src attrs name=⟨name,bs,dsF,r.files,gotA a2 ks,lackA a2 ks⟩:=by
        rw[HH.out.2.2.2.2.2.1];unfold chapR;rw[H2.out.2.2.2.2.1,H2.out.2.2.2.2.2.1,H7.out.2.2.2.2.1,H9.out.2.1,HO.out.2.2.2.2.2.2.2.2.2.1,HO.out.2.2.2.2.2.2.2.1,HO.out.2.2.2.2.2.2.2.2.1]
       have hkt:ks.take j=ks:=List.take_of_length_le (by rw[HO.out.2.2.2.2.2.1];exact Nat.le_refl _);have hLL:=HL.out;rw[hkt] at hLL;have hqC:=HE.out.2;rw[hcM];have hdo:_:=own_up (b':=w.heap.size) hLL.1.d (fun k hk=>by have h1:=(own_lt hLL.1.d hk).1;have h4:=HW.out.2;omega);refine⟨_,rfl,⟨.slice Ab k cb,.slice A9 n9 c9,.slice Af nf cf,.slice A10 n10 c10,.slice A11 n11 c11,rfl,?_,?_,?_,?_,?_⟩,HE.out.1.trans (HS.out.2.1.toBelow HE.out.1.size (fun k hk=>by have h4:=HW.out.2;have e:k=q:=hk;omega)),⟨Ab,k,cb,A9,n9,c9,Af,nf,cf,A10,n10,c10,A11,n11,c11,rfl,HS.out.2.1.owns (by have h:=hdo;rw[HO.out.2.1.2.2.2] at h ⊢;exact h) (fun b hb e=>by have h1:=(own_lt hLL.1.d hb).1;have e:b=q:=e;omega)⟩⟩
       ·exact H2.out.2.1 _ (fun b=>b=q) ((Chg.below HS.out.2.2.2.2.2 (fun b=>b=q)).trans HS.out.2.1 (fun _ _ h=>h)) (fun b hb=>.inl (by rw[hb];exact HS.out.2.2.2.1))
       ·exact DiagsAt.own (HS.out.2.1.owns (by have h:=hLL.1.d;rw[HO.out.2.1.2.2.2] at h ⊢;exact h) (fun b hb e=>by have h1:=(own_lt hLL.1.d hb).1;have e:b=q:=e;omega)) (Nat.le_refl _)
       ·exact TxS.own (HS.out.2.1.owns HS.out.2.2.2.2.1 (fun b hb e=>by have h1:=(own_lt HS.out.2.2.2.2.1 hb).1;have h2:=HS.out.2.2.1;have e:b=q:=e;omega)) HN.out.2.2.1.symm (fun b hb=>Nat.lt_of_lt_of_le (own_lt HS.out.2.2.2.2.1 hb).2 HS.out.2.1.size)
       ·exact AtS.own (HS.out.2.1.owns (by have h:=hLL.1.a;rw[hLL.2.2.2.1] at h;exact h) (fun b hb e=>by have h1:=(own_lt hLL.1.a hb).1;have e:b=q:=e;omega)) hLL.2.2.2.1.symm (fun b hb=>Nat.lt_of_lt_of_le (own_lt hLL.1.a hb).2 HS.out.2.1.size)
       ·exact TxS.own (HS.out.2.1.owns (by have h:=hLL.1.u;rw[hLL.2.2.2.2] at h;exact h) (fun b hb e=>by have h1:=(own_lt hLL.1.u hb).1;have e:b=q:=e;omega)) hLL.2.2.2.2.symm (fun b hb=>Nat.lt_of_lt_of_le (own_lt hLL.1.u hb).2 HS.out.2.1.size)
end Go.Proofs.YtkkebmciiiajeaaGreatDoor
namespace Go.Bd
open Go.RowKit Go.Proofs.YtkkebmciiiajeaaGreatDoor
end Go.Bd
namespace Go.Proofs.YtkkebmciiiajeaaGreatDoor
open Go.RowKit Go.Bd
end Go.Proofs.YtkkebmciiiajeaaGreatDoor
namespace Go.Bd
open Go.RowKit Go.Proofs.YtkkebmciiiajeaaGreatDoor
theorem lnW_wt:∀l:List Ln,lnW l=wtX l
 | []=>rfl
 | x::l=>by rw[lnW,wtX,lnW_wt l]
theorem Fine.src {src:List Sc}{attrs:List At} (h:Fine src attrs):(∀s∈src,s.text.size≤99999)∧(∀a∈attrs,a.name.size≤100000∧a.value.size≤100000)∧src.length≤100∧attrs.length≤8000:=by
 obtain⟨h1,h2,_⟩:=h;refine⟨fun s hs=>?_,fun a ha=>?_,h2,?_⟩
 ·have:=twoZ_mem (List.mem_map_of_mem (f:=scP) hs)
  unfold scP at this h1;dsimp only at this;omega
 ·have:=twoZ_mem (List.mem_map_of_mem (f:=atP) ha)
  unfold atP at this h1;dsimp only at this;constructor<;>omega
 ·have:(attrs.map atP).length≤twoZ (attrs.map atP):=by unfold twoZ;omega
  rw[List.length_map] at this;omega
theorem Fine.wt {src:List Sc}{attrs:List At} (h:Fine src attrs) (n:ByteArray):wtX (readS src attrs n).lines≤100000000:=by
 obtain⟨_,_,b,h3,h4⟩:=h;rw[←lnW_wt];exact readS_w (Nat.le_refl _) h3 h4
end Go.Bd
namespace Go.Proofs.YtkkebmciiiajeaaGreatDoor
open Go.RowKit Go.Bd
def bookN:ByteArray:=⟨#[98,111,111,107]⟩
def indexN:ByteArray:=⟨#[105,110,100,101,120]⟩
def termsN:ByteArray:=⟨#[116,101,114,109,115]⟩
def faultO (src:List Sc) (ns:List ByteArray) (n:ByteArray):Nat :=
 if pathB n.data.toList=false∨n=bookN∨n=indexN∨n=termsN then 3 else if findS src n=none then 1 else if hasN ns n=true then 11 else 0
structure Ord where
 names:List Sd
 diags:List Dg
def Ord.ns (o:Ord):List ByteArray:=o.names.map fun x=>x.1.2
def stepO (src:List Sc) (o:Ord) (x:Sd):Ord :=
 if faultO src o.ns x.1.2=0 then { o with names:=o.names++[x] } else { o with diags:=o.diags++[⟨bookN,(x.1.1:Int),faultO src o.ns x.1.2,x.1.2⟩] }
def ordO (src:List Sc) (l:List Sd):Ord:=l.foldl (stepO src) ⟨[],[]⟩
theorem ordO_snoc (src:List Sc) (l:List Sd) (x:Sd):ordO src (l++[x])=stepO src (ordO src l) x:=by
 unfold ordO;rw[List.foldl_append];rfl
def GoodO (src:List Sc) (ns:List ByteArray):Prop:=(∀n∈ns,(∃t,findS src n=some t)∧n≠bookN)∧ns.Nodup
theorem good_ord (src:List Sc) (l:List Sd):GoodO src (ordO src l).ns:=by
 have h:∀(l:List Sd) (o:Ord),GoodO src o.ns→GoodO src (l.foldl (stepO src) o).ns:=by
  intro l
  induction l with
  | nil=>exact fun o h=>h
  | cons x l ih =>
   intro o ho;rw[List.foldl_cons];refine ih _ ?_;unfold stepO;split
   ·rename_i hf;unfold faultO at hf;split at hf
    ·cases hf
    ·rename_i h1;split at hf
     ·cases hf
     ·rename_i h2;split at hf
      ·cases hf
      ·rename_i h3;have e:(⟨o.names++[x],o.diags⟩:Ord).ns=o.ns++[x.1.2]:=by unfold Ord.ns;simp
       show GoodO src (⟨o.names++[x],o.diags⟩:Ord).ns
       rw[e];refine⟨fun n hn=>?_,?_⟩
       ·rcases List.mem_append.1 hn with h|h
        ·exact ho.1 n h
        ·rw[List.mem_singleton.1 h];refine⟨?_,fun e=>h1 (.inr (.inl e))⟩;cases hq:findS src x.1.2 with
         | none=>exact absurd hq h2
         | some t=>exact⟨t,rfl⟩
       ·rw[List.nodup_append];refine⟨ho.2,by simp,fun a ha b hb e=>?_⟩;rw[List.mem_singleton.1 hb] at e;exact h3 (hasN_iff.2 (e ▸ ha))
   ·exact ho
 exact h l ⟨[],[]⟩ ⟨fun n hn=>(by cases hn),List.nodup_nil⟩
theorem ord_length (src:List Sc) (l:List Sd):(ordO src l).names.length+(ordO src l).diags.length=l.length:=by
 have h:∀(l:List Sd) (o:Ord),(l.foldl (stepO src) o).names.length+(l.foldl (stepO src) o).diags.length=o.names.length+o.diags.length+l.length:=by
  intro l
  induction l with
  | nil=>exact fun o=>rfl
  | cons x l ih =>
   intro o;rw[List.foldl_cons,ih,List.length_cons];unfold stepO;split
   ·rw[List.length_append];simp;omega
   ·rw[List.length_append];simp;omega
 rw[show ordO src l=l.foldl (stepO src) ⟨[],[]⟩ from rfl,h];simp
def orderM (src:List Sc):List ByteArray×List Dg :=
 match findS src bookN with
 | none=>([],[⟨bookN,0,1,bookN⟩])
 | some t=>((ordO src (saidN (linesT t) (linesT t).length)).ns,(ordO src (saidN (linesT t) (linesT t).length)).diags)
theorem good_order (src:List Sc):GoodO src (orderM src).1:=by
 unfold orderM;split
 ·exact⟨fun n hn=>(by cases hn),List.nodup_nil⟩
 ·exact good_ord src _
def plO (xs:List Sd):List Fe:=xs.map fun x=>⟨x.1.2,.int .i64 (x.1.1:Int),[]⟩
def nmO (xs:List Sd):List ByteArray:=xs.map fun x=>x.1.2
theorem plO_find (n:ByteArray):∀xs:List Sd,(hasN (nmO xs) n=false∧findF (plO xs) n=none)∨(hasN (nmO xs) n=true∧∃k:Nat,0<k∧findF (plO xs) n=some ⟨n,.int .i64 (k:Int),[]⟩)
 | []=>.inl ⟨rfl,rfl⟩
 | x::xs=>by
  have ih:=plO_find n xs;unfold findF plO hasN nmO at *;rw[List.map_cons,List.map_cons]
  by_cases h:x.1.2=n
  ·refine .inr ⟨by simp[h],x.1.1,x.2.1,?_⟩;rw[List.find?_cons_of_pos (by simp[h]),h]
  ·rw[List.find?_cons_of_neg (by simp[h]),List.any_cons,decide_eq_false h,Bool.false_or];exact ih
theorem plO_put {xs:List Sd}{x:Sd} (h:hasN (nmO xs) x.1.2=false):putF (plO xs) ⟨x.1.2,.int .i64 (x.1.1:Int),[]⟩=plO (xs++[x]):=by
 unfold putF delF plO;rw[List.map_append,List.filter_eq_self.2]
 ·rfl
 ·intro e he;obtain⟨y,hy,rfl⟩:=List.mem_map.1 he;have:y.1.2≠x.1.2:=fun e=>by
   have h2:hasN (nmO xs) x.1.2=true:=hasN_iff.2 (List.mem_map.2 ⟨y,hy,e⟩);rw[h] at h2;cases h2
  simpa using this
theorem nmO_snoc (xs:List Sd) (x:Sd):nmO (xs++[x])=nmO xs++[x.1.2]:=by unfold nmO;simp
theorem rowTx_snoc (l:List ByteArray) (n:ByteArray):rowTx (l++[n])=rowTx l++[.string n]:=by unfold rowTx;simp
structure OrdAt (w5:World) (b6 b7 bm:Nat) (v6 v7:Value) (ms ns:List Sd) (ds:List Dg) (W:World):Prop where
 chg:Chg w5 W (fun k=>k=b6∨k=b7∨k=bm)
 h6:Holds W b6 30 #[v6]
 h7:Holds W b7 29 #[v7]
 mp:FsMap W Tryz.prog 9 bm (plO ms)
 uq:Uniq (plO ms)
 r6:W.ownsRow w5.heap.size 9 1 v6 ns.length (rowTx (nmO ns))
 r7:W.ownsRow w5.heap.size 51 4 v7 ds.length (rowD ds)
def OrdI (w5:World) (b6 b7 bm:Nat) (src:List Sc) (pre:List Sd) (W:World):Prop:=∃v6 v7,OrdAt w5 b6 b7 bm v6 v7 (ordO src pre).names (ordO src pre).names (ordO src pre).diags W
theorem own_form {w:World}{b sz n:Nat}{e:TypeId}{v:Value}{xs:List Value} (h:w.ownsRow b e sz v n xs):∃A c,v=.slice A n c:=by
 rcases h.2 with ⟨h1,h2⟩|⟨g,cap,cur,h1,_⟩
 ·exact⟨_,_,by rw[h1,h2]⟩
 ·exact⟨_,_,h1⟩
section
variable {w5 W W1 W':World} {b6 b7 bm:Nat} {v6 v7 v6' v7':Value} {ms ns ms' ns':List Sd} {ds ds':List Dg}
theorem OrdAt.apart (h:OrdAt w5 b6 b7 bm v6 v7 ms ns ds W):(∀k,v6.ownBlock=some k→k≠b6∧k≠b7∧k≠bm∧v7.ownBlock≠some k∧k<W.heap.size)∧(∀k,v7.ownBlock=some k→k≠b6∧k≠b7∧k≠bm∧v6.ownBlock≠some k∧k<W.heap.size):=by
 obtain⟨m,c,hm⟩:=h.mp.obj;have x6:W.heap[b6]? = some (.cells #[v6] 30 (0,0)):=h.h6;have x7:W.heap[b7]? = some (.cells #[v7] 29 (0,0)):=h.h7;refine⟨fun k e=>?_,fun k e=>?_⟩
 ·obtain⟨_,cur,hc⟩:=own_obj h.r6 e;refine⟨?_,?_,?_,?_,(Array.getElem?_eq_some_iff.1 hc).1⟩
  ·intro e1;rw[e1,x6] at hc;injection hc with hc;injection hc with _ e2 _;exact absurd e2 (by decide)
  ·intro e1;rw[e1,x7] at hc;injection hc with hc;injection hc with _ e2 _;exact absurd e2 (by decide)
  ·intro e1;rw[e1,hm] at hc;injection hc with hc;cases hc
  ·intro e1;obtain⟨_,cur',hc'⟩:=own_obj h.r7 e1;rw[hc] at hc';injection hc' with hc';injection hc' with _ e2 _;exact absurd e2 (by decide)
 ·obtain⟨_,cur,hc⟩:=own_obj h.r7 e;refine⟨?_,?_,?_,?_,(Array.getElem?_eq_some_iff.1 hc).1⟩
  ·intro e1;rw[e1,x6] at hc;injection hc with hc;injection hc with _ e2 _;exact absurd e2 (by decide)
  ·intro e1;rw[e1,x7] at hc;injection hc with hc;injection hc with _ e2 _;exact absurd e2 (by decide)
  ·intro e1;rw[e1,hm] at hc;injection hc with hc;cases hc
  ·intro e1;obtain⟨_,cur',hc'⟩:=own_obj h.r6 e1;rw[hc] at hc';injection hc' with hc';injection hc' with _ e2 _;exact absurd e2 (by decide)
theorem OrdAt.turn (h:OrdAt w5 b6 b7 bm v6 v7 ms ns ds W){T:Nat→Prop} (hc:Chg W W' T) (hT:∀k,T k→k≠b6∧k≠b7∧k≠bm∧w5.heap.size≤k) (h6:∀k,v6.ownBlock=some k→¬T k) (h7:∀k,v7.ownBlock=some k→¬T k):OrdAt w5 b6 b7 bm v6 v7 ms ns ds W' :=
 ⟨h.chg.trans hc (fun k hk ht=>absurd (hT k ht).2.2.2 (by omega)),hc.holds (fun e=>(hT _ e).1 rfl) h.h6,hc.holds (fun e=>(hT _ e).2.1 rfl) h.h7,h.mp.chg hc (fun e=>(hT _ e).2.2.1 rfl),h.uq,hc.owns h.r6 h6,hc.owns h.r7 h7⟩
theorem OrdAt.later (h:OrdAt w5 b6 b7 bm v6 v7 ms ns ds W) (hb:Below W.heap.size W W'):OrdAt w5 b6 b7 bm v6 v7 ms ns ds W' :=
 h.turn (Chg.below hb (fun _=>False)) (fun _ e=>e.elim) (fun _ _ e=>e) (fun _ _ e=>e)
theorem OrdAt.keeps (h:OrdAt w5 b6 b7 bm v6 v7 ms ns ds W) (h':OrdAt w5 b6 b7 bm v6' v7' ms' ns' ds' W') (k6:b6<w5.heap.size) (k7:b7<w5.heap.size) (km:bm<w5.heap.size)
  (hc:Chg W W' (fun k=>k=b6∨k=b7∨k=bm∨v6.ownBlock=some k∨v7.ownBlock=some k)) (e6:∀k,v6'.ownBlock=some k→v6.ownBlock=some k∨W.heap.size≤k) (e7:∀k,v7'.ownBlock=some k→v7.ownBlock=some k∨W.heap.size≤k) :
  KeepsFrom w5.heap.size W W'∧KpO b6 b7 bm W W':=by
 refine⟨⟨hc.size,fun k o hk ho hn=>(hc.block k (Array.getElem?_eq_some_iff.1 ho).1 (fun e=>?_)).trans ho⟩,hc.size,fun g ⟨g6,g7,gm,⟨o,ho,hcl⟩,x6,x7,c6,c7,n6,n7⟩=>?_⟩
 ·rcases e with e|e|e|e|e
  ·omega
  ·omega
  ·omega
  ·obtain⟨_,cur,h1⟩:=own_obj h.r6 e;rw[ho] at h1;cases h1;cases hn
  ·obtain⟨_,cur,h1⟩:=own_obj h.r7 e;rw[ho] at h1;cases h1;cases hn
 ·have d6:=h.h6.cell 0;have d7:=h.h7.cell 0;simp at d6 d7;rw[d6] at c6;rw[d7] at c7;obtain rfl:=Option.some.inj c6;obtain rfl:=Option.some.inj c7;have hg:=(Array.getElem?_eq_some_iff.1 ho).1;have hh:W'.heap[g]? = W.heap[g]?:=hc.block g hg (fun e=>by
   rcases e with e|e|e|e|e
   ·exact g6 e
   ·exact g7 e
   ·exact gm e
   ·exact n6 e
   ·exact n7 e)
  have f6:=h'.h6.cell 0;have f7:=h'.h7.cell 0;simp at f6 f7;refine⟨⟨g6,g7,gm,⟨o,hh.trans ho,hcl⟩,v6',v7',f6,f7,fun e=>?_,fun e=>?_⟩,hh⟩
  ·rcases e6 g e with e|e
   ·exact n6 e
   ·omega
  ·rcases e7 g e with e|e
   ·exact n7 e
   ·omega
theorem OrdAt.fault (h:OrdAt w5 b6 b7 bm v6 v7 ms ns ds W) (k6:b6<w5.heap.size) (k7:b7<w5.heap.size) (km:bm<w5.heap.size) (u67:b6≠b7) (u6m:b6≠bm) (u7m:b7≠bm){o:Obj}{d:Dg} (hg:(W.alloc o).grownBy W1 v7.ownBlock) (ho:W1.ownsRow w5.heap.size 51 4 v7' (ds.length+1) (rowD ds++dgCells d))
  (hat:v7'.ownBlock=v7.ownBlock∨v7'.ownBlock=some (W.alloc o).heap.size) :
  Holds W1 b7 29 #[v7]∧OrdAt w5 b6 b7 bm v6 v7' ms ns (ds++[d]) (W1.setCell ⟨b7,0,none⟩ v7')∧Chg W (W1.setCell ⟨b7,0,none⟩ v7') (fun k=>k=b7∨v7.ownBlock=some k)∧∀k,v7'.ownBlock=some k→v7.ownBlock=some k∨W.heap.size≤k:=by
 have hc1:Chg W W1 (fun k=>v7.ownBlock=some k):=((Chg.refl W _).alloc _).trans (Chg.grown hg) (fun _ _ h=>h.symm);obtain⟨a6,a7⟩:=h.apart;have hsz:=h.chg.size;have hh7:=hc1.holds (fun e=>(a7 _ e).2.1 rfl) h.h7;have hw:∀k,v7'.ownBlock=some k→k≠b7∧(v7.ownBlock=some k∨W.heap.size≤k):=fun k e=>by
  rcases hat with e1|e1
  ·rw[e1] at e;exact⟨(a7 k e).2.1,.inl e⟩
  ·rw[e1] at e;have e2:=Option.some.inj e;rw[World.size_alloc] at e2;exact⟨by omega,.inr (by omega)⟩
 refine⟨hh7,⟨(h.chg.trans hc1 (fun k hk e=>absurd (own_obj h.r7 e).1 (by omega))).trans (Chg.set _ ⟨b7,0,none⟩ v7') (fun k _ e=>.inr (.inl e)),?_,hh7.set 0 v7',?_,h.uq,?_,?_⟩,(hc1.mono (fun k _ e=>.inr e)).trans (Chg.set _ ⟨b7,0,none⟩ v7') (fun k _ e=>.inl e),fun k e=>(hw k e).2⟩
 ·exact (Chg.set W1 ⟨b7,0,none⟩ v7').holds (fun e=>u67 e) (hc1.holds (fun e=>(a7 _ e).1 rfl) h.h6)
 ·exact (h.mp.chg hc1 (fun e=>(a7 _ e).2.2.1 rfl)).chg (Chg.set W1 ⟨b7,0,none⟩ v7') (fun e=>u7m e.symm)
 ·exact (Chg.set W1 ⟨b7,0,none⟩ v7').owns (hc1.owns h.r6 (fun k e e1=>(a6 k e).2.2.2.1 e1)) (fun k e e1=>(a6 k e).2.1 e1)
 ·rw[List.length_append,List.length_singleton,rowD_snoc];exact (Chg.set W1 ⟨b7,0,none⟩ v7').owns ho (fun k e e1=>(hw k e).1 e1)
theorem OrdAt.mark (h:OrdAt w5 b6 b7 bm v6 v7 ms ns ds W) (km:bm<w5.heap.size) (u6m:b6≠bm) (u7m:b7≠bm){x:Sd} (hn:hasN (nmO ms) x.1.2=false) (hl:ms.length≤1000000000) :
  ∃W',(Instr.mapUpdate 72 (.map (some bm)) (.string x.1.2) (.int .i64 (x.1.1:Int))).run Tryz.prog W=.ok () W'∧OrdAt w5 b6 b7 bm v6 v7 (ms++[x]) ns ds W'∧Chg W W' (fun k=>k=bm)∧W'.heap.size=W.heap.size:=by
 have hx:=x.2;obtain⟨W',h1,h2,h3,h4⟩:=h.mp.store h.uq str_under places_under (by unfold plO;rw[List.length_map];unfold maxLen;omega) ⟨x.1.2,.int .i64 (x.1.1:Int),[]⟩ (by show x.1.2.size≤_;unfold maxLen;omega);obtain⟨a6,a7⟩:=h.apart;refine⟨W',h1,⟨h.chg.trans h3 (fun k _ e=>.inr (.inr e)),h3.holds (fun e=>u6m e) h.h6,h3.holds (fun e=>u7m e) h.h7,by rw[←plO_put hn];exact h2,by rw[←plO_put hn];exact h.uq.put _,h3.owns h.r6 (fun k e e1=>(a6 k e).2.2.1 e1),h3.owns h.r7 (fun k e e1=>(a7 k e).2.2.1 e1)⟩,h3,h4⟩
theorem OrdAt.name (h:OrdAt w5 b6 b7 bm v6 v7 ms ns ds W) (k6:b6<w5.heap.size) (u67:b6≠b7) (u6m:b6≠bm){o:Obj}{x:Sd} (hg:(W.alloc o).grownBy W1 v6.ownBlock) (ho:W1.ownsRow w5.heap.size 9 1 v6' (ns.length+1) (rowTx (nmO ns)++[.string x.1.2]))
  (hat:v6'.ownBlock=v6.ownBlock∨v6'.ownBlock=some (W.alloc o).heap.size) :
  Holds W1 b6 30 #[v6]∧OrdAt w5 b6 b7 bm v6' v7 ms (ns++[x]) ds (W1.setCell ⟨b6,0,none⟩ v6')∧Chg W (W1.setCell ⟨b6,0,none⟩ v6') (fun k=>k=b6∨v6.ownBlock=some k)∧∀k,v6'.ownBlock=some k→v6.ownBlock=some k∨W.heap.size≤k:=by
 have hc1:Chg W W1 (fun k=>v6.ownBlock=some k):=((Chg.refl W _).alloc _).trans (Chg.grown hg) (fun _ _ h=>h.symm);obtain⟨a6,a7⟩:=h.apart;have hsz:=h.chg.size;have hh6:=hc1.holds (fun e=>(a6 _ e).1 rfl) h.h6;have hw:∀k,v6'.ownBlock=some k→k≠b6∧(v6.ownBlock=some k∨W.heap.size≤k):=fun k e=>by
  rcases hat with e1|e1
  ·rw[e1] at e;exact⟨(a6 k e).1,.inl e⟩
  ·rw[e1] at e;have e2:=Option.some.inj e;rw[World.size_alloc] at e2;exact⟨by omega,.inr (by omega)⟩
 refine⟨hh6,⟨(h.chg.trans hc1 (fun k hk e=>absurd (own_obj h.r6 e).1 (by omega))).trans (Chg.set _ ⟨b6,0,none⟩ v6') (fun k _ e=>.inl e),hh6.set 0 v6',?_,?_,h.uq,?_,?_⟩,(hc1.mono (fun k _ e=>.inr e)).trans (Chg.set _ ⟨b6,0,none⟩ v6') (fun k _ e=>.inl e),fun k e=>(hw k e).2⟩
 ·exact (Chg.set W1 ⟨b6,0,none⟩ v6').holds (fun e=>u67 e.symm) (hc1.holds (fun e=>(a6 _ e).2.1 rfl) h.h7)
 ·exact (h.mp.chg hc1 (fun e=>(a6 _ e).2.2.1 rfl)).chg (Chg.set W1 ⟨b6,0,none⟩ v6') (fun e=>u6m e.symm)
 ·rw[List.length_append,List.length_singleton,nmO_snoc,rowTx_snoc];exact (Chg.set W1 ⟨b6,0,none⟩ v6').owns ho (fun k e e1=>(hw k e).1 e1)
 ·exact (Chg.set W1 ⟨b6,0,none⟩ v6').owns (hc1.owns h.r7 (fun k e e1=>(a7 k e).2.2.2.1 e1)) (fun k e e1=>(a7 k e).1 e1)
end
theorem OrdI.own {w5:World}{b6 b7 bm:Nat}{src:List Sc} (k6:b6<w5.heap.size) (k7:b7<w5.heap.size) (km:bm<w5.heap.size):OwnFrom w5.heap.size (OrdI w5 b6 b7 bm src):=by
 rintro pre W W' row ⟨v6,v7,h⟩ hg hr;refine⟨v6,v7,h.turn (Chg.grown hg) (fun k e=>?_) (fun k e e1=>?_) (fun k e e1=>?_)⟩
 ·have h1:=(hr k e.symm).1;exact⟨by omega,by omega,by omega,h1⟩
 ·obtain⟨_,cur,hc⟩:=own_obj h.r6 e;obtain⟨_,o,h1,h2⟩:=hr k e1.symm;rw[hc] at h1;cases h1;cases h2
 ·obtain⟨_,cur,hc⟩:=own_obj h.r7 e;obtain⟨_,o,h1,h2⟩:=hr k e1.symm;rw[hc] at h1;cases h1;cases h2
end Go.Proofs.YtkkebmciiiajeaaGreatDoor
namespace Go.Proofs.YtkkebmciiiajeaaGreatDoor
open Go.RowKit Go.Bd Go.Shelf
attribute [local go_sem] Oper.semAt_some
def noPb (Q:Exit→Act→World→Prop):Exit→Act→World→Prop
 | .panic _,_,_=>False
 | .normal,a,w=>Q .normal a w
 | .ret,a,w=>Q .ret a w
 | .exit id,a,w=>Q (.exit id) a w
 | .goto t,a,w=>Q (.goto t) a w
 | .outgrown,a,w=>Q .outgrown a w
theorem noPb_mono (Q:Exit→Act→World→Prop):∀(e:Exit) (a:Act) (w:World),noPb Q e a w→Q e a w
 | .panic _,_,_,h=>h.elim
 | .normal,_,_,h=>h
 | .ret,_,_,h=>h
 | .exit _,_,_,h=>h
 | .goto _,_,_,h=>h
 | .outgrown,_,_,h=>h
theorem findS_mem {src:List Sc}{n t:ByteArray} (h:findS src n=some t):∃s∈src,s.name=n∧s.text=t:=by
 unfold findS at h;cases hq:src.find? (fun s=>decide (s.name=n)) with
 | none=>rw[hq] at h;cases h
 | some s =>
  rw[hq] at h;exact⟨s,List.mem_of_find?_eq_some hq,by simpa using List.find?_some hq,Option.some.inj h⟩
section
variable {w5 W:World} {b6 b7 bm:Nat} {v6 v7:Value} {src:List Sc} {pre:List Sd} {x:Sd}
theorem ord_bad {o:Ord} (ho:ordO src pre=o){n:ByteArray}{no f:Nat} (hn:x.1.2=n) (hno:x.1.1=no) (hf:faultO src o.ns n=f) (h0:f≠0) (h:OrdAt w5 b6 b7 bm v6 v7 o.names o.names (o.diags++[⟨bookN,(no:Int),f,n⟩]) W):OrdI w5 b6 b7 bm src (pre++[x]) W:=by
 subst ho hn hno hf;refine⟨v6,v7,?_⟩;rw[ordO_snoc];unfold stepO;rw[if_neg h0];exact h
theorem ord_fine {o:Ord} (ho:ordO src pre=o){n:ByteArray} (hn:x.1.2=n) (hf:faultO src o.ns n=0) (h:OrdAt w5 b6 b7 bm v6 v7 (o.names++[x]) (o.names++[x]) o.diags W):OrdI w5 b6 b7 bm src (pre++[x]) W:=by
 subst ho hn;refine⟨v6,v7,?_⟩;rw[ordO_snoc];unfold stepO;rw[if_pos hf];exact h
end
theorem order_any {w:World}{S:Nat→Prop}{sv:Value}{src:List Sc} (hsc:ScS w S sv src) (hS:∀k,S k→k<w.heap.size) (hsn:src.length≤1000000000) (hz:∀s∈src,s.text.size≤99999){m:Int} (hg:Glob m w) (h3:3≤w.heap.size) :
  Calls Tryz.prog 11 #[sv] w fun e w'=>∃nv dv,e=.returned (.tuple #[nv,dv])∧w'.ownsRow w.heap.size 9 1 nv (orderM src).1.length (rowTx (orderM src).1)∧w'.ownsRow w.heap.size 51 4 dv (orderM src).2.length (rowD (orderM src).2)∧Below w.heap.size w w':=by
 suffices hQ:∀R:Ending→World→Prop,(∀e w',(∃nv dv,e=.returned (.tuple #[nv,dv])∧w'.ownsRow w.heap.size 9 1 nv (orderM src).1.length (rowTx (orderM src).1)∧w'.ownsRow w.heap.size 51 4 dv (orderM src).2.length (rowD (orderM src).2)∧Below w.heap.size w w')→R e w')→Calls Tryz.prog 11 #[sv] w R from hQ _ (fun _ _ h=>h)
 intro R hR;have HR:=Lib.hid hR;clear hR;obtain⟨h,hh⟩:∃h,w.heap.size=h:=⟨_,rfl⟩;obtain⟨W0,hW0⟩:∃W0,w.alloc (.cells #[sv] 22)=W0:=⟨_,rfl⟩;have hX0:=Holds.new w 22 #[sv];have hB0:=(Below.refl w.heap.size w).alloc (Nat.le_refl _) (.cells #[sv] 22);rw[hW0] at hX0 hB0;rw[hh] at hX0;have hs0:W0.heap.size=h+1:=by rw[←hW0,World.size_alloc,hh]
 have hF:=Find_any (TwoS.below hsc hB0) (fun k hk=>Nat.lt_of_lt_of_le (hS k hk) hB0.size) hsn bookN;obtain⟨As,cs,hsv,-⟩:=id hsc;rw[List.length_map] at hsv;obtain⟨sn,hsn2⟩:∃sn,src.length=sn:=⟨_,rfl⟩;rw[hsn2] at hsv;subst hsv;have c0:=hX0.cell 0;simp at c0;have HH:=hidH10 hsc hS hsn hz hg h3 hB0 hX0 hW0 hh;have hmm:=@run_makeMap Tryz.prog;refine (callsIn_wide (n:=3)).1 ?_;refine callsIn_of_wp_marks Tryz.func11 rfl trivial ?_ rfl;refine wpIn_mono ?_ (noPb_mono _);refine wpIn_wide.2 ?_;simp only[Tryz.ntmps11,List.size_toArray,List.length_cons,List.length_nil,Nat.reduceAdd,Nat.reduceSub,Array.replicate_succ,Array.replicate_zero,List.push_toArray,List.append_toArray,List.nil_append,List.cons_append];cases hf:findS src bookN with
 | none =>
  rw[hf] at hF;unfold getV at hF;have hr:orderM src=([],[⟨bookN,0,1,bookN⟩]):=by unfold orderM;rw[hf]
  have HF:=hidH2 hF hr;clear hsc hS hsn hz hg h3 hB0 hX0 hF hr hf hsn2
  go_wp2_with fail
  (try rw[HH.out.2.2.2.2.2.2.2.2.1])
  refine HF.out.1.mono ?_;rintro e w1 ⟨rfl,hb1⟩;have HB:=Lib.hid (HH.out.2.2.2.2.2.2.1.trans (hb1.mono (by omega)));clear hb1 hW0 hs0;go_wp2;refine⟨_,results_tmp2 rfl _ _ _,?_⟩;refine HR.out _ _ ⟨.slice none 0 0,.slice (some ⟨w1.heap.size,0,none⟩) 1 1,rfl,?_⟩;rw[HF.out.2];exact⟨own_nil _ _ _ _,own_shut (heap_alloc_new w1 _) (by simp) (by simp[rowD,dgCells,bookN]) (Nat.le_refl _) (by unfold maxLen;omega) HB.out.size,HB.out.alloc HB.out.size _⟩
 | some t =>
  rw[hf] at hF;unfold getV at hF;have htz:t.size≤99999:=by
   obtain⟨s,hs,-,rfl⟩:=findS_mem hf;exact hz s hs
  have hr:orderM src=((ordO src (saidN (linesT t) (linesT t).length)).ns,(ordO src (saidN (linesT t) (linesT t).length)).diags):=by unfold orderM;rw[hf]
  have hnL:(linesT t).length≤100000:=Nat.le_trans (raw_len _) (Nat.le_trans (linesT_raw t) (by omega));have HF:=hidH4 hF hr htz hnL;clear hsc hS hsn hz hg h3 hB0 hX0 hF hr hf hsn2 htz hnL
  go_wp2_with fail
  (try rw[HH.out.2.2.2.2.2.2.2.2.1])
  refine HF.out.1.mono ?_;rintro e w1 ⟨rfl,hb1⟩;have hs1:h+1≤w1.heap.size:=Nat.le_trans (Nat.le_of_eq hs0.symm) hb1.size;have HB1:=Lib.hid hb1;clear hb1 hW0 hs0;have hSd:=fun W=>said_any t W
  go_wp2_with (go_at_call 28;refine (hSd _).mono ?_;rintro e w5 ⟨rfl,rfl⟩)
  obtain⟨B,hB⟩:∃b,w1.heap.size=b:=⟨_,rfl⟩;obtain⟨b7,h7⟩:∃b,B+1=b:=⟨_,rfl⟩;obtain⟨bm,hbm⟩:∃b,b7+1=b:=⟨_,rfl⟩;obtain⟨b8,h8⟩:∃b,bm+1=b:=⟨_,rfl⟩;obtain⟨bS,hbS⟩:∃b,b8+1=b:=⟨_,rfl⟩;obtain⟨W5,hW5⟩:∃W5,((((w1.alloc (.cells #[.slice none 0 0] 30)).alloc (.cells #[.slice none 0 0] 29)).alloc (.map #[] 0)).alloc (.cells #[.map (some bm)] 72)).alloc (.cells #[.string t] 9)=W5:=⟨_,rfl⟩;have hb15:Below w1.heap.size w1 W5:=by
   rw[←hW5];exact (((((Below.refl _ w1).alloc (Nat.le_refl _) _).alloc (by simp) _).alloc (by simp;omega) _).alloc (by simp;omega) _).alloc (by simp;omega) _
  have hs5:W5.heap.size=B+5:=by rw[←hW5,←hB];simp
  have y6:Holds W5 B 30 #[.slice none 0 0]:=by rw[←hW5,←hB];exact ((((Holds.new w1 _ _).alloc _).alloc _).alloc _).alloc _
  have y7:Holds W5 b7 29 #[.slice none 0 0]:=by
   have h:=Holds.new (w1.alloc (.cells #[.slice none 0 0] 30)) 29 #[.slice none 0 0];rw[World.size_alloc,hB,h7] at h;rw[←hW5];exact ((h.alloc _).alloc _).alloc _
  have ym:FsMap W5 Tryz.prog 9 bm (plO []):=by
   have h:=FsMap.new ((w1.alloc (.cells #[.slice none 0 0] 30)).alloc (.cells #[.slice none 0 0] 29)) Tryz.prog 9;rw[World.size_alloc,World.size_alloc,hB,h7,hbm] at h;rw[←hW5];exact (h.chg ((Chg.refl _ (fun _=>False)).alloc _) (fun e=>e)).chg ((Chg.refl _ (fun _=>False)).alloc _) (fun e=>e)
  have y8:Holds W5 b8 72 #[.map (some bm)]:=by
   have h:=Holds.new (((w1.alloc (.cells #[.slice none 0 0] 30)).alloc (.cells #[.slice none 0 0] 29)).alloc (.map #[] 0)) 72 #[.map (some bm)];rw[World.size_alloc,World.size_alloc,World.size_alloc,hB,h7,hbm,h8] at h;rw[←hW5];exact h.alloc _
  have yS:Holds W5 bS 9 #[.string t]:=by
   have h:=Holds.new ((((w1.alloc (.cells #[.slice none 0 0] 30)).alloc (.cells #[.slice none 0 0] 29)).alloc (.map #[] 0)).alloc (.cells #[.map (some bm)] 72)) 9 #[.string t];rw[World.size_alloc,World.size_alloc,World.size_alloc,World.size_alloc,hB,h7,hbm,h8,hbS] at h;rw[←hW5];exact h
  have hw5:Below w.heap.size w W5:=(HH.out.2.2.2.2.2.2.1.trans (HB1.out.mono HH.out.2.2.2.2.2.2.1.size)).trans (hb15.mono (Nat.le_trans HH.out.2.2.2.2.2.2.1.size HB1.out.size));have x0:Holds W5 h 22 #[.slice As sn cs]:=((HH.out.2.2.2.2.2.2.2.1.below HB1.out HH.out.2.2.2.2.2.2.2.1.lt).below hb15 (by omega));have hwB:w.heap.size≤B:=by have:=HH.out.2.2.2.2.2.2.2.2.2;omega
  have hord:B<b7∧b7<bm∧bm<b8∧b8<bS∧bS<W5.heap.size∧h<B:=by omega
  have hall:∀W,Chg W5 W (fun k=>k=B∨k=b7∨k=bm)→Glob m W∧W.cell? ⟨h,0,none⟩=some (.slice As sn cs)∧ScS W S (.slice As sn cs) src∧(∀k,S k→k<W.heap.size)∧W.cell? ⟨b8,0,none⟩=some (.map (some bm))∧Below w.heap.size w W:=fun W hW=>by
   have hb:Below w.heap.size w W:=hw5.trans (hW.toBelow hw5.size (fun k hk=>by omega));have c1:=(hW.holds (by omega) x0).cell 0;have c2:=(hW.holds (by omega) y8).cell 0;simp at c1 c2;exact⟨HH.out.2.2.2.2.1.chg (Chg.below hb (fun _=>False)) (fun _ h=>h.elim),c1,TwoS.below HH.out.1 hb,fun k hk=>Nat.lt_of_lt_of_le (HH.out.2.1 k hk) hb.size,c2,hb⟩
  have hI0:OrdI W5 B b7 bm src [] W5:=⟨.slice none 0 0,.slice none 0 0,Chg.refl _ _,y6,y7,ym,List.Pairwise.nil,World.ownsRow_nil _ _ _ _,World.ownsRow_nil _ _ _ _⟩;have hst:=said_stops 2 (by decide) bS B b7 bm t HF.out.2.2.1 W5 (hall W5 (Chg.refl _ _)).1 (by omega) (by have:=yS.cell 0;simpa using this) (by have:=y6.cell 0;simpa using this) (by have:=y7.cell 0;simpa using this) (by omega);have HAL:=Lib.hid hall;have HST:=hidH2 hI0 hst;obtain⟨i0,hi0,hz0,hz1,hz2⟩:=info_parts diagA_info;obtain⟨i1,hi1,hy0,hy1,hy2⟩:=info_parts tx_infoA;have HI0:=hidH4 hi0 hz0 hz1 hz2;have HI1:=hidH4 hi1 hy0 hy1 hy2;obtain⟨o1,o2,o3,o4,o5,o6⟩:=hord;clear hi0 hz0 hz1 hz2 hi1 hy0 hy1 hy2
  (try rw[hB])
  (try rw[h7])
  (try rw[hbm])
  (try rw[h8])
  (try rw[hbS])
  (try rw[hW5])
  clear hW5 hb15 y6 y7 ym y8 yS hw5 x0 hall hI0 hst c0 hmm hSd hB h7 hbm h8 hbS hs5;refine (wpIn_wide (n:=3)).1 ?_;refine wpIn_rangeFunc_ownG (n:=3) rfl (by decide) (gf:=48) (lb:=#[.pointer (some ⟨bS,0,none⟩)]) rfl trivial (enters_of Tryz.func48 (by kernel_rfl) rfl)
   HST.out.2 (fun h1 h2=>KpO.trans h1 h2) (fun W l o o' hl ho h1 _=>KpO.put (n:=W5.heap.size) (by omega) (by omega) W l o o' hl ho h1) (Below.refl _ _) (fun _=>rfl)
   (OrdI W5 B b7 bm src) (fun _ _ _=>False) (OrdI.own (by omega) (by omega) (by omega)) (fun _ _ _ _ _ hs _ _=>hs) HST.out.1 ?_ ?_ ?_ ?_ ?_
  rotate_left
  ·intro l x W K hK;simp only[encSd]
   gi_wp2
   exact hK
  ·rintro l pre x W ⟨v6,v7,hO⟩ hlen;obtain⟨o,ho⟩:∃o,ordO src pre=o:=⟨_,rfl⟩;rw[ho] at hO;have hol:o.names.length+o.diags.length≤100000:=by
    have h1:=ord_length src pre;rw[ho] at h1;have h2:=HF.out.2.2.2;omega
   have hx:=x.2;obtain⟨n,hn⟩:∃n,x.1.2=n:=⟨_,rfl⟩;obtain⟨no,hno⟩:∃no,x.1.1=no:=⟨_,rfl⟩
   (try rw[hn,hno])
   rw[hn,hno] at hx;obtain⟨A6,c6,hv6⟩:=own_form hO.r6;obtain⟨A7,c7,hv7⟩:=own_form hO.r7;obtain⟨n6,hn6⟩:∃k,o.names.length=k:=⟨_,rfl⟩;obtain⟨n7,hn7⟩:∃k,o.diags.length=k:=⟨_,rfl⟩;rw[hn6] at hv6 hol;rw[hn7] at hv7 hol;subst hv6 hv7;have hP:=fun W' (hW':Below W.heap.size W W')=>path_any n W' (by omega) (HAL.out W' (hO.later hW').chg).1
   have hFd:=fun W' (hW':Below W.heap.size W W')=>Find_any (HAL.out W' (hO.later hW').chg).2.2.1 (HAL.out W' (hO.later hW').chg).2.2.2.1 HH.out.2.2.1 n
   have hcl:∀W',Below W.heap.size W W'→W'.cell? ⟨h,0,none⟩=some (.slice As sn cs)∧W'.cell? ⟨b8,0,none⟩=some (.map (some bm))∧W'.cell? ⟨B,0,none⟩=some (.slice A6 n6 c6)∧W'.cell? ⟨b7,0,none⟩=some (.slice A7 n7 c7):=fun W' hW'=>by
    have h1:=hO.later hW';have h2:=HAL.out W' h1.chg;have k6:=h1.h6.cell 0;have k7:=h1.h7.cell 0;simp at k6 k7;exact⟨h2.2.1,h2.2.2.2.2.1,k6,k7⟩
   have e1:(n.toList==[98,111,111,107])=decide (n=bookN):=by have h:=toL_eq n bookN;rw[Lib.toList_data bookN] at h;exact h
   have e2:(n.toList==[105,110,100,101,120])=decide (n=indexN):=by have h:=toL_eq n indexN;rw[Lib.toList_data indexN] at h;exact h
   have e3:(n.toList==[116,101,114,109,115])=decide (n=termsN):=by have h:=toL_eq n termsN;rw[Lib.toList_data termsN] at h;exact h
   obtain⟨p,hp⟩:∃p,pathB n.data.toList=p:=⟨_,rfl⟩;obtain⟨c1,hc1⟩:∃c,decide (n=bookN)=c:=⟨_,rfl⟩;obtain⟨c2,hc2⟩:∃c,decide (n=indexN)=c:=⟨_,rfl⟩;obtain⟨c3,hc3⟩:∃c,decide (n=termsN)=c:=⟨_,rfl⟩;obtain⟨ft,hft⟩:∃c,findS src n=c:=⟨_,rfl⟩;have hfa:faultO src o.ns n=if p=false∨c1=true∨c2=true∨c3=true then 3 else if ft=none then 1 else if hasN o.ns n=true then 11 else 0:=by
    unfold faultO;rw[←hp,←hft];simp only[←hc1,←hc2,←hc3,decide_eq_true_eq]
   rw[hp] at hP;rw[hft] at hFd;rw[hc1] at e1;rw[hc2] at e2;rw[hc3] at e3;have HB:=hidH9 hO hP hFd ho hn hno hn6 hn7 hcl;have HFA:=Lib.hid hfa;clear hp hc1 hc2 hc3 hft hP hFd hO hn hno ho hn6 hn7 hcl hfa;cases p with
   | false =>
    have HF0:Hid (faultO src o.ns n=3):=Lib.hid (by rw[HFA.out];simp)
    gi_wp2_with (first
     | (refine⟨trivial,?_⟩;gi_at_call 29;refine (CallsIn.inRound l (callsIn_wide.2 (HB.out.2.1 _ (Below.refl _ _)))).mono ?_;rintro e w2 ⟨rfl,hb2⟩;obtain⟨k0,k8,k6,k7⟩:=HB.out.2.2.2.2.2.2.2.2 w2 hb2;have HB2:=Lib.hid hb2)
     | (gi_at_builtin;refine wpListIn_append_own_at _ rfl _ _ 29 rfl W5.heap.size 51 i0 _ 4 48 dgs_under HI0.out.1 HI0.out.2.1 HI0.out.2.2.1 HI0.out.2.2.2 rfl (by omega) (.slice A7 n7 c7) n7 (rowD o.diags) (by rfl) ((HB.out.2.2.2.2.2.2.2.1 ▸ (HB.out.1.later HB2.out).r7).alloc _) _ 1 1 (dgCells ⟨bookN,(no:Int),3,n⟩) (by rfl) (by rfl) (World.news_of_block (cs:=#[.string bookN,.int .i64 (no:Int),.int .i64 ((3:Nat):Int),.string n]) (t:=51) (fr:=(0,0)) (heap_alloc_new _ _)) (by simp[dgCells,Value.oneCell']) (by unfold maxLen;omega) (by omega) (by have h1:=(HB.out.1.later HB2.out).chg.size;simp;omega) ?_;intro v7' w4 hown hgrow _ hat;obtain⟨g',cap',rfl⟩:=ownsRow_succ hown;have hFt:=OrdAt.fault (d:=⟨bookN,(no:Int),3,n⟩) (HB.out.1.later HB2.out) (by omega) (by omega) (by omega) (by omega) (by omega) (by omega) hgrow (HB.out.2.2.2.2.2.2.2.1.symm ▸ hown) hat;have z0:=hFt.1.cell 0;have z1:=hFt.1.free 0;simp at z0;have HFT:=Lib.hid hFt;clear hFt hown hgrow hat))
    have hk:=OrdAt.keeps HB.out.1 HFT.out.2.1 (by omega) (by omega) (by omega) ((Chg.below HB2.out _).trans HFT.out.2.2.1 (fun k _ e=>e.elim (fun e=>.inr (.inl e)) (fun e=>.inr (.inr (.inr (.inr e)))))) (fun k e=>.inl e) (fun k e=>(HFT.out.2.2.2 k e).imp id (fun e=>Nat.le_trans HB2.out.size e));exact⟨hk.1,hk.2,ord_bad HB.out.2.2.2.1 HB.out.2.2.2.2.1 HB.out.2.2.2.2.2.1 HF0.out (by decide) HFT.out.2.1⟩
   | true =>
    cases c1 with
    | true =>
     have HF0:Hid (faultO src o.ns n=3):=Lib.hid (by rw[HFA.out];simp)
     gi_wp2_with (first
      | (refine⟨trivial,?_⟩;gi_at_call 29;refine (CallsIn.inRound l (callsIn_wide.2 (HB.out.2.1 _ (Below.refl _ _)))).mono ?_;rintro e w2 ⟨rfl,hb2⟩;obtain⟨k0,k8,k6,k7⟩:=HB.out.2.2.2.2.2.2.2.2 w2 hb2;have HB2:=Lib.hid hb2)
      | (gi_at_builtin;refine wpListIn_append_own_at _ rfl _ _ 29 rfl W5.heap.size 51 i0 _ 4 48 dgs_under HI0.out.1 HI0.out.2.1 HI0.out.2.2.1 HI0.out.2.2.2 rfl (by omega) (.slice A7 n7 c7) n7 (rowD o.diags) (by rfl) ((HB.out.2.2.2.2.2.2.2.1 ▸ (HB.out.1.later HB2.out).r7).alloc _) _ 1 1 (dgCells ⟨bookN,(no:Int),3,n⟩) (by rfl) (by rfl) (World.news_of_block (cs:=#[.string bookN,.int .i64 (no:Int),.int .i64 ((3:Nat):Int),.string n]) (t:=51) (fr:=(0,0)) (heap_alloc_new _ _)) (by simp[dgCells,Value.oneCell']) (by unfold maxLen;omega) (by omega) (by have h1:=(HB.out.1.later HB2.out).chg.size;simp;omega) ?_;intro v7' w4 hown hgrow _ hat;obtain⟨g',cap',rfl⟩:=ownsRow_succ hown;have hFt:=OrdAt.fault (d:=⟨bookN,(no:Int),3,n⟩) (HB.out.1.later HB2.out) (by omega) (by omega) (by omega) (by omega) (by omega) (by omega) hgrow (HB.out.2.2.2.2.2.2.2.1.symm ▸ hown) hat;have z0:=hFt.1.cell 0;have z1:=hFt.1.free 0;simp at z0;have HFT:=Lib.hid hFt;clear hFt hown hgrow hat))
     have hk:=OrdAt.keeps HB.out.1 HFT.out.2.1 (by omega) (by omega) (by omega) ((Chg.below HB2.out _).trans HFT.out.2.2.1 (fun k _ e=>e.elim (fun e=>.inr (.inl e)) (fun e=>.inr (.inr (.inr (.inr e)))))) (fun k e=>.inl e) (fun k e=>(HFT.out.2.2.2 k e).imp id (fun e=>Nat.le_trans HB2.out.size e));exact⟨hk.1,hk.2,ord_bad HB.out.2.2.2.1 HB.out.2.2.2.2.1 HB.out.2.2.2.2.2.1 HF0.out (by decide) HFT.out.2.1⟩
    | false =>
     cases c2 with
     | true =>
      have HF0:Hid (faultO src o.ns n=3):=Lib.hid (by rw[HFA.out];simp)
      gi_wp2_with (first
       | (refine⟨trivial,?_⟩;gi_at_call 29;refine (CallsIn.inRound l (callsIn_wide.2 (HB.out.2.1 _ (Below.refl _ _)))).mono ?_;rintro e w2 ⟨rfl,hb2⟩;obtain⟨k0,k8,k6,k7⟩:=HB.out.2.2.2.2.2.2.2.2 w2 hb2;have HB2:=Lib.hid hb2)
       | (gi_at_builtin;refine wpListIn_append_own_at _ rfl _ _ 29 rfl W5.heap.size 51 i0 _ 4 48 dgs_under HI0.out.1 HI0.out.2.1 HI0.out.2.2.1 HI0.out.2.2.2 rfl (by omega) (.slice A7 n7 c7) n7 (rowD o.diags) (by rfl) ((HB.out.2.2.2.2.2.2.2.1 ▸ (HB.out.1.later HB2.out).r7).alloc _) _ 1 1 (dgCells ⟨bookN,(no:Int),3,n⟩) (by rfl) (by rfl) (World.news_of_block (cs:=#[.string bookN,.int .i64 (no:Int),.int .i64 ((3:Nat):Int),.string n]) (t:=51) (fr:=(0,0)) (heap_alloc_new _ _)) (by simp[dgCells,Value.oneCell']) (by unfold maxLen;omega) (by omega) (by have h1:=(HB.out.1.later HB2.out).chg.size;simp;omega) ?_;intro v7' w4 hown hgrow _ hat;obtain⟨g',cap',rfl⟩:=ownsRow_succ hown;have hFt:=OrdAt.fault (d:=⟨bookN,(no:Int),3,n⟩) (HB.out.1.later HB2.out) (by omega) (by omega) (by omega) (by omega) (by omega) (by omega) hgrow (HB.out.2.2.2.2.2.2.2.1.symm ▸ hown) hat;have z0:=hFt.1.cell 0;have z1:=hFt.1.free 0;simp at z0;have HFT:=Lib.hid hFt;clear hFt hown hgrow hat))
      have hk:=OrdAt.keeps HB.out.1 HFT.out.2.1 (by omega) (by omega) (by omega) ((Chg.below HB2.out _).trans HFT.out.2.2.1 (fun k _ e=>e.elim (fun e=>.inr (.inl e)) (fun e=>.inr (.inr (.inr (.inr e)))))) (fun k e=>.inl e) (fun k e=>(HFT.out.2.2.2 k e).imp id (fun e=>Nat.le_trans HB2.out.size e));exact⟨hk.1,hk.2,ord_bad HB.out.2.2.2.1 HB.out.2.2.2.2.1 HB.out.2.2.2.2.2.1 HF0.out (by decide) HFT.out.2.1⟩
     | false =>
      cases c3 with
      | true =>
       have HF0:Hid (faultO src o.ns n=3):=Lib.hid (by rw[HFA.out];simp)
       gi_wp2_with (first
        | (refine⟨trivial,?_⟩;gi_at_call 29;refine (CallsIn.inRound l (callsIn_wide.2 (HB.out.2.1 _ (Below.refl _ _)))).mono ?_;rintro e w2 ⟨rfl,hb2⟩;obtain⟨k0,k8,k6,k7⟩:=HB.out.2.2.2.2.2.2.2.2 w2 hb2;have HB2:=Lib.hid hb2)
        | (gi_at_builtin;refine wpListIn_append_own_at _ rfl _ _ 29 rfl W5.heap.size 51 i0 _ 4 48 dgs_under HI0.out.1 HI0.out.2.1 HI0.out.2.2.1 HI0.out.2.2.2 rfl (by omega) (.slice A7 n7 c7) n7 (rowD o.diags) (by rfl) ((HB.out.2.2.2.2.2.2.2.1 ▸ (HB.out.1.later HB2.out).r7).alloc _) _ 1 1 (dgCells ⟨bookN,(no:Int),3,n⟩) (by rfl) (by rfl) (World.news_of_block (cs:=#[.string bookN,.int .i64 (no:Int),.int .i64 ((3:Nat):Int),.string n]) (t:=51) (fr:=(0,0)) (heap_alloc_new _ _)) (by simp[dgCells,Value.oneCell']) (by unfold maxLen;omega) (by omega) (by have h1:=(HB.out.1.later HB2.out).chg.size;simp;omega) ?_;intro v7' w4 hown hgrow _ hat;obtain⟨g',cap',rfl⟩:=ownsRow_succ hown;have hFt:=OrdAt.fault (d:=⟨bookN,(no:Int),3,n⟩) (HB.out.1.later HB2.out) (by omega) (by omega) (by omega) (by omega) (by omega) (by omega) hgrow (HB.out.2.2.2.2.2.2.2.1.symm ▸ hown) hat;have z0:=hFt.1.cell 0;have z1:=hFt.1.free 0;simp at z0;have HFT:=Lib.hid hFt;clear hFt hown hgrow hat))
       have hk:=OrdAt.keeps HB.out.1 HFT.out.2.1 (by omega) (by omega) (by omega) ((Chg.below HB2.out _).trans HFT.out.2.2.1 (fun k _ e=>e.elim (fun e=>.inr (.inl e)) (fun e=>.inr (.inr (.inr (.inr e)))))) (fun k e=>.inl e) (fun k e=>(HFT.out.2.2.2 k e).imp id (fun e=>Nat.le_trans HB2.out.size e));exact⟨hk.1,hk.2,ord_bad HB.out.2.2.2.1 HB.out.2.2.2.2.1 HB.out.2.2.2.2.2.1 HF0.out (by decide) HFT.out.2.1⟩
      | false =>
       cases ft with
       | none =>
        have HFd:=Lib.hid (show ∀W',Below W.heap.size W W'→Calls Tryz.prog 22 #[.slice As sn cs,.string n] W' fun e w'=>e=.returned (.tuple #[.string ⟨#[]⟩,.bool false])∧Below W'.heap.size W' w' from HB.out.2.2.1);have HF0:Hid (faultO src o.ns n=1):=Lib.hid (by rw[HFA.out];simp)
        gi_wp2_with (first
         | (refine⟨trivial,?_⟩;gi_at_call 29;refine (CallsIn.inRound l (callsIn_wide.2 (HB.out.2.1 _ (Below.refl _ _)))).mono ?_;rintro e w2 ⟨rfl,hb2⟩;obtain⟨k0,k8,k6,k7⟩:=HB.out.2.2.2.2.2.2.2.2 w2 hb2;have HB2:=Lib.hid hb2)
         | (refine⟨trivial,?_⟩;gi_at_call 22;refine (CallsIn.inRound l (callsIn_wide.2 (HFd.out _ HB2.out))).mono ?_;rintro e w3 ⟨rfl,hb3⟩;have hb3':=HB2.out.trans (hb3.mono HB2.out.size);obtain⟨q0,q8,q6,q7⟩:=HB.out.2.2.2.2.2.2.2.2 w3 hb3';have HB3:=Lib.hid hb3')
         | (gi_at_builtin;refine wpListIn_append_own_at _ rfl _ _ 29 rfl W5.heap.size 51 i0 _ 4 48 dgs_under HI0.out.1 HI0.out.2.1 HI0.out.2.2.1 HI0.out.2.2.2 rfl (by omega) (.slice A7 n7 c7) n7 (rowD o.diags) (by rfl) ((HB.out.2.2.2.2.2.2.2.1 ▸ (HB.out.1.later HB3.out).r7).alloc _) _ 1 1 (dgCells ⟨bookN,(no:Int),1,n⟩) (by rfl) (by rfl) (World.news_of_block (cs:=#[.string bookN,.int .i64 (no:Int),.int .i64 ((1:Nat):Int),.string n]) (t:=51) (fr:=(0,0)) (heap_alloc_new _ _)) (by simp[dgCells,Value.oneCell']) (by unfold maxLen;omega) (by omega) (by have h1:=(HB.out.1.later HB3.out).chg.size;simp;omega) ?_;intro v7' w4 hown hgrow _ hat;obtain⟨g',cap',rfl⟩:=ownsRow_succ hown;have hFt:=OrdAt.fault (d:=⟨bookN,(no:Int),1,n⟩) (HB.out.1.later HB3.out) (by omega) (by omega) (by omega) (by omega) (by omega) (by omega) hgrow (HB.out.2.2.2.2.2.2.2.1.symm ▸ hown) hat;have z0:=hFt.1.cell 0;have z1:=hFt.1.free 0;simp at z0;have HFT:=Lib.hid hFt;clear hFt hown hgrow hat))
        have hk:=OrdAt.keeps HB.out.1 HFT.out.2.1 (by omega) (by omega) (by omega) ((Chg.below HB3.out _).trans HFT.out.2.2.1 (fun k _ e=>e.elim (fun e=>.inr (.inl e)) (fun e=>.inr (.inr (.inr (.inr e)))))) (fun k e=>.inl e) (fun k e=>(HFT.out.2.2.2 k e).imp id (fun e=>Nat.le_trans HB3.out.size e));exact⟨hk.1,hk.2,ord_bad HB.out.2.2.2.1 HB.out.2.2.2.2.1 HB.out.2.2.2.2.2.1 HF0.out (by decide) HFT.out.2.1⟩
       | some tx =>
        have HFd:=Lib.hid (show ∀W',Below W.heap.size W W'→Calls Tryz.prog 22 #[.slice As sn cs,.string n] W' fun e w'=>e=.returned (.tuple #[.string tx,.bool true])∧Below W'.heap.size W' w' from HB.out.2.2.1)
        rcases plO_find n o.names with ⟨hh,hf⟩|⟨hh,k,hk0,hf⟩
        ·have HF0:Hid (faultO src o.ns n=0):=Lib.hid (by rw[HFA.out,show hasN o.ns n=false from hh];simp);have HL:Hid (lkF (plO o.names) n (.int .i64 0)=.int .i64 0):=Lib.hid (by unfold lkF;rw[hf]);have HHH:=Lib.hid hh;clear hh hf
         gi_wp2_with (first
          | (refine⟨trivial,?_⟩;gi_at_call 29;refine (CallsIn.inRound l (callsIn_wide.2 (HB.out.2.1 _ (Below.refl _ _)))).mono ?_;rintro e w2 ⟨rfl,hb2⟩;obtain⟨k0,k8,k6,k7⟩:=HB.out.2.2.2.2.2.2.2.2 w2 hb2;have HB2:=Lib.hid hb2)
          | (refine⟨trivial,?_⟩;gi_at_call 22;refine (CallsIn.inRound l (callsIn_wide.2 (HFd.out _ HB2.out))).mono ?_;rintro e w3 ⟨rfl,hb3⟩;have hb3':=HB2.out.trans (hb3.mono HB2.out.size);obtain⟨q0,q8,q6,q7⟩:=HB.out.2.2.2.2.2.2.2.2 w3 hb3';have HB3:=Lib.hid hb3';have hlk:=FsMap.lookz (HB.out.1.later hb3').mp str_under places_under (places_zero w3) (s:=n) (by unfold maxLen;omega);rw[HL.out] at hlk;obtain⟨wm,hrun,hOm,hcm,hsm⟩:=(HB.out.1.later hb3').mark (x:=x) (by omega) (by omega) (by omega) (by rw[HB.out.2.2.2.2.1];exact HHH.out) (by rw[HB.out.2.2.2.2.2.2.1];omega);rw[HB.out.2.2.2.2.1,HB.out.2.2.2.2.2.1] at hrun;have m6:=hOm.h6.cell 0;simp at m6;have HM:=hidH3 hOm hcm hsm;clear hOm hcm hsm)
          | (gi_at_builtin;refine wpListIn_append_own_at _ rfl _ _ 30 rfl W5.heap.size 9 i1 _ 1 16 txs_underA HI1.out.1 HI1.out.2.1 HI1.out.2.2.1 HI1.out.2.2.2 rfl (by omega) (.slice A6 n6 c6) n6 (rowTx (nmO o.names)) (by rfl) ((HB.out.2.2.2.2.2.2.1 ▸ HM.out.1.r6).alloc _) _ 1 1 [.string n] (by rfl) (by rfl) (World.news_of_block (cs:=#[.string n]) (t:=9) (fr:=(0,0)) (heap_alloc_new _ _)) (by simp[Value.oneCell']) (by unfold maxLen;omega) (by omega) (by have h1:=HM.out.1.chg.size;simp;omega) ?_;intro v6' w4 hown hgrow _ hat;obtain⟨g',cap',rfl⟩:=ownsRow_succ hown;have hFt:=OrdAt.name (x:=x) HM.out.1 (by omega) (by omega) (by omega) hgrow (by rw[HB.out.2.2.2.2.1,HB.out.2.2.2.2.2.2.1];exact hown) hat;have z0:=hFt.1.cell 0;have z1:=hFt.1.free 0;simp at z0;have HFT:=Lib.hid hFt;clear hFt hown hgrow hat))
         have hk:=OrdAt.keeps HB.out.1 HFT.out.2.1 (by omega) (by omega) (by omega) ((Chg.below HB3.out _).trans ((HM.out.2.1.mono (fun k _ e=>.inr (.inr (.inl e)))).trans HFT.out.2.2.1 (fun k _ e=>e.elim (fun e=>.inl e) (fun e=>.inr (.inr (.inr (.inl e)))))) (fun _ _ e=>e)) (fun k e=>(HFT.out.2.2.2 k e).imp id (fun e=>Nat.le_trans HB3.out.size (Nat.le_trans (Nat.le_of_eq HM.out.2.2.symm) e))) (fun k e=>.inl e);exact⟨hk.1,hk.2,ord_fine HB.out.2.2.2.1 HB.out.2.2.2.2.1 HF0.out HFT.out.2.1⟩
        ·have HF0:Hid (faultO src o.ns n=11):=Lib.hid (by rw[HFA.out,show hasN o.ns n=true from hh];simp);have HL:Hid (lkF (plO o.names) n (.int .i64 0)=.int .i64 (k:Int)):=Lib.hid (by unfold lkF;rw[hf]);have hk1:(0:Int)<(k:Int):=by omega
         clear hh hf
         gi_wp2_with (first
          | (refine⟨trivial,?_⟩;gi_at_call 29;refine (CallsIn.inRound l (callsIn_wide.2 (HB.out.2.1 _ (Below.refl _ _)))).mono ?_;rintro e w2 ⟨rfl,hb2⟩;obtain⟨k0,k8,k6,k7⟩:=HB.out.2.2.2.2.2.2.2.2 w2 hb2;have HB2:=Lib.hid hb2)
          | (refine⟨trivial,?_⟩;gi_at_call 22;refine (CallsIn.inRound l (callsIn_wide.2 (HFd.out _ HB2.out))).mono ?_;rintro e w3 ⟨rfl,hb3⟩;have hb3':=HB2.out.trans (hb3.mono HB2.out.size);obtain⟨q0,q8,q6,q7⟩:=HB.out.2.2.2.2.2.2.2.2 w3 hb3';have HB3:=Lib.hid hb3';have hlk:=FsMap.lookz (HB.out.1.later hb3').mp str_under places_under (places_zero w3) (s:=n) (by unfold maxLen;omega);rw[HL.out] at hlk)
          | (gi_at_builtin;refine wpListIn_append_own_at _ rfl _ _ 29 rfl W5.heap.size 51 i0 _ 4 48 dgs_under HI0.out.1 HI0.out.2.1 HI0.out.2.2.1 HI0.out.2.2.2 rfl (by omega) (.slice A7 n7 c7) n7 (rowD o.diags) (by rfl) ((HB.out.2.2.2.2.2.2.2.1 ▸ (HB.out.1.later HB3.out).r7).alloc _) _ 1 1 (dgCells ⟨bookN,(no:Int),11,n⟩) (by rfl) (by rfl) (World.news_of_block (cs:=#[.string bookN,.int .i64 (no:Int),.int .i64 ((11:Nat):Int),.string n]) (t:=51) (fr:=(0,0)) (heap_alloc_new _ _)) (by simp[dgCells,Value.oneCell']) (by unfold maxLen;omega) (by omega) (by have h1:=(HB.out.1.later HB3.out).chg.size;simp;omega) ?_;intro v7' w4 hown hgrow _ hat;obtain⟨g',cap',rfl⟩:=ownsRow_succ hown;have hFt:=OrdAt.fault (d:=⟨bookN,(no:Int),11,n⟩) (HB.out.1.later HB3.out) (by omega) (by omega) (by omega) (by omega) (by omega) (by omega) hgrow (HB.out.2.2.2.2.2.2.2.1.symm ▸ hown) hat;have z0:=hFt.1.cell 0;have z1:=hFt.1.free 0;simp at z0;have HFT:=Lib.hid hFt;clear hFt hown hgrow hat))
         have hk:=OrdAt.keeps HB.out.1 HFT.out.2.1 (by omega) (by omega) (by omega) ((Chg.below HB3.out _).trans HFT.out.2.2.1 (fun k _ e=>e.elim (fun e=>.inr (.inl e)) (fun e=>.inr (.inr (.inr (.inr e)))))) (fun k e=>.inl e) (fun k e=>(HFT.out.2.2.2 k e).imp id (fun e=>Nat.le_trans HB3.out.size e));exact⟨hk.1,hk.2,ord_bad HB.out.2.2.2.1 HB.out.2.2.2.2.1 HB.out.2.2.2.2.2.1 HF0.out (by decide) HFT.out.2.1⟩
  ·rintro D ys W hD hys ⟨v6,v7,hO⟩ hK;obtain⟨o,ho⟩:∃o,ordO src ys=o:=⟨_,rfl⟩;rw[ho] at hO;have hor:orderM src=(o.ns,o.diags):=by rw[HF.out.2.1,←hys,ho]
   obtain⟨A6,c6,hv6⟩:=own_form hO.r6;obtain⟨A7,c7,hv7⟩:=own_form hO.r7;obtain⟨n6,hn6⟩:∃k,o.names.length=k:=⟨_,rfl⟩;obtain⟨n7,hn7⟩:∃k,o.diags.length=k:=⟨_,rfl⟩;rw[hn6] at hv6;rw[hn7] at hv7;subst hv6 hv7;have k6:=hO.h6.cell 0;have k7:=hO.h7.cell 0;simp at k6 k7;have hbW:=(HAL.out W hO.chg).2.2.2.2.2;have HO:=hidH5 hO hor hbW hn6 hn7;clear hO hor hbW hn6 hn7 hys ho;go_wp2
   go_region
   all_goals go_wp2
   all_goals (
    refine⟨by simp,.inl ⟨_,_,rfl,run_takeDeferred hK,?_⟩⟩;refine⟨_,results_tmp2 rfl _ _ _,?_⟩;refine HR.out _ _ ⟨.slice A6 n6 c6,.slice A7 n7 c7,rfl,?_⟩;rw[HO.out.2.1];have r6:=ownsRow_putObj HO.out.1.r6 (.deferred none) hK rfl;have r7:=ownsRow_putObj HO.out.1.r7 (.deferred none) hK rfl;have hw5:=HO.out.1.chg.size;refine⟨own_up (b:=W5.heap.size) (b':=w.heap.size) ?_ (fun k e=>?_),own_up (b:=W5.heap.size) (b':=w.heap.size) r7 (fun k e=>?_),HO.out.2.2.1.drew.trans (belowK_b (w:=w) (Nat.le_refl _) W.drew D _ _ (by omega) hK rfl rfl)⟩
    ·rw[show (o.ns,o.diags).1.length=o.names.length from List.length_map _];exact r6
    ·have:=(own_obj HO.out.1.r6 e).1;omega
    ·have:=(own_obj HO.out.1.r7 e).1;omega)
  ·rintro D c pre W _ _ h _;exact h.elim
end Go.Proofs.YtkkebmciiiajeaaGreatDoor
