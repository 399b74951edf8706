/-
  What the chapter's laws share, part 5: plain facts, memory, and walks of functions. Its conditions: those that each theorem names.
-/
import Derived.Shelf.SlSortCmp.WholeK
import Derived.Test.YtkkebmciiiajeaaGreatDoorProg
import Derived.Test.YtkkebmciiiajeaaGreatDoorK0
import Derived.Test.YtkkebmciiiajeaaGreatDoorK1
import Derived.Test.YtkkebmciiiajeaaGreatDoorK3
import Derived.Test.YtkkebmciiiajeaaGreatDoorK4
set_option linter.unusedSimpArgs false
set_option linter.unusedVariables false
set_option maxHeartbeats 16000000
set_option maxRecDepth 100000
namespace Go.Bd
theorem isB {c d:UInt8}{k:Int} (hk:(d.toNat:Int)=k) (h:c=d):((c.toNat:Int)==k)=true:=by subst h;rw[hk];simp
theorem neB {c d:UInt8}{k:Int} (hk:(d.toNat:Int)=k) (h:c≠d):((c.toNat:Int)==k)=false:=by
 rw[beq_eq_false_iff_ne,←hk];intro e;exact h (UInt8.toNat_inj.1 (by omega))
theorem pre_hasPrefix (s p:Bs):Lib.hasPrefix s p=p.isPrefixOf s:=by first|rfl|simp[Lib.hasPrefix]|(unfold Lib.hasPrefix;rfl)
end Go.Bd
namespace Go.Proofs.YtkkebmciiiajeaaGreatDoor
open Go.RowKit Go.Bd
section
variable {w:World} {B:Nat} {col:Nat→Nat} {pb ob cap len:Nat} {s:ByteArray} {st:Pst} {i:Nat} {fv:Value} {gb:Nat} {cs:Array Value} {gn:List Bs}
def StepPost (B pb:Nat) (s:ByteArray) (gb:Nat) (w:World) (col:Nat→Nat) (st':Pst) (j:Nat) (w':World):Prop :=
 ∃col' ob' cap' fv' cs' gn',PSx Tryz.prog w' B col' pb ob' cap' st'.fs.length s st' j fv' gb cs' gn'∧Stay B w w' col col'
theorem between_any (h:PSx Tryz.prog w B col pb ob cap len s st i fv gb cs gn) (hl:len=st.fs.length) (hI:Inv st i) (a b:ByteArray) (ha:1≤a.size) (ha2:a.size≤2) (hb0:1≤b.size) (hb:b.size≤2) (hi:i+a.size≤s.size) (hs:s.size≤100000000) (F:Nat) (m:Int) (hm:w.cell? ⟨0,0,none⟩=some (.int .i64 m)) (hB:0<B)
  {af:Bs→Sp ⊕ Nat} (hF:AsOk F af) (has:af=codeS∨af=refS∨af=termS) :
  Calls Tryz.prog 201 #[.pointer (some ⟨pb,0,none⟩),.int .i64 (i:Int),.string a,.string b,.func (.func F) #[] #[]] w fun e w'=>e=.returned (.int .i64 ((st.between s.data.toList i a.data.toList b.data.toList af).2:Nat)) ∧
   StepPost B pb s gb w col (st.between s.data.toList i a.data.toList b.data.toList af).1 (st.between s.data.toList i a.data.toList b.data.toList af).2 w':=by
 have la:a.data.toList.length=a.size:=by simp
 have lb:b.data.toList.length=b.size:=by simp
 have ls:s.data.toList.length=s.size:=by simp
 unfold Pst.between;rw[la,lb];cases hn:nextAt s.data.toList (i+a.size) b.data.toList with
 | none =>
  refine (between_none h hl hI a b ha ha2 hb hi hs F m hm hn).mono ?_;rintro e w' ⟨rfl,col',fv',cs',gn',h1,h2⟩;exact⟨rfl,col',ob,cap,fv',cs',gn',by rw[show (((st.write a.data.toList).tell i 7:Pst)).fs.length=len by rw[tellLen,writeLen,hl]];exact h1,h2⟩
 | some n =>
  obtain⟨n1,n2⟩:=nextAt_some (by omega) hn;rw[lb,ls] at n2;simp only;cases haf:af ((s.data.toList.drop (i+a.size)).take (n-(i+a.size))) with
  | inr fc =>
   have hfc:1≤fc:=by rcases as_fault has haf with h|h|h<;>omega
   refine (between_bad h hl hI a b ha ha2 hb hi hs F m hm hB hn n2 hF haf hfc).mono ?_;rintro e w' ⟨rfl,col',fv',cs',gn',h1,h2⟩;exact⟨rfl,col',ob,cap,fv',cs',gn',by rw[show (((st.write ((s.data.toList.drop i).take (n+b.size-i))).tell i fc:Pst)).fs.length=len by rw[tellLen,writeLen,hl]];exact h1,h2⟩
  | inl x =>
   obtain⟨_,p2,p3,_⟩:=as_wt has haf;refine (between_good h hl hI a b ha ha2 hb hi hs F m hm hB hn n2 hF haf p3 (fun h=>absurd h p2)).mono ?_;rintro e w' ⟨rfl,col',fv',cs',gn',h1,h2⟩;exact⟨rfl,col',ob,cap,fv',cs',gn',by rw[show ((st.top (·.add x):Pst)).fs.length=len by rw[hl];exact onTop_length (·.add x) st.fs];exact h1,h2⟩
theorem rest_list (s:ByteArray) (i:Nat):(s.extract i s.size).data.toList=s.data.toList.drop i:=by
 rw[cut_list,List.take_of_length_le (by simp)]
theorem rest_get {s:ByteArray}{i:Nat} (j:Nat) (h:j<(s.extract i s.size).size):(s.extract i s.size)[j]=s.data.toList.getD (i+j) 0:=by
 have e:(s.extract i s.size)[j]=(s.extract i s.size).data.toList[j]'(by simpa using h):=by first|rfl|simp[ByteArray.getElem_eq_getElem_data]
 rw[e,List.getD_eq_getElem?_getD];simp only[rest_list,List.getElem_drop];rw[List.getElem?_eq_getElem];rfl
theorem step_esc (h:PSx Tryz.prog w B col pb ob cap len s st i fv gb cs gn) (hl:len=st.fs.length) (hI:Inv st i) (hi:i<s.size) (hs:s.size≤100000000) (m:Int) (hm:w.cell? ⟨0,0,none⟩=some (.int .i64 m)) (hB:0<B) (hc:s.data.toList.getD i 0=92) (hn:i+1<s.size) (he:escB (s.data.toList.getD (i+1) 0)=true) :
  Calls Tryz.prog 164 #[.pointer (some ⟨pb,0,none⟩),.int .i64 (i:Int)] w fun e w'=>e=.returned (.int .i64 ((i+2:Nat):Int))∧StepPost B pb s gb w col (st.write [s.data.toList.getD (i+1) 0]) (i+2) w':=by
 have h17:=hI.2.2.2;have h1:=hI.2.2.1;have c0:=h.hp.cell 0;obtain⟨f,r,hfs⟩:∃f r,st.fs=f::r:=by
  match hq:st.fs,hI.2.2.1 with
  | f::r,_=>exact⟨f,r,rfl⟩
  | [],hq2=>simp at hq2
 have hftx:f.row.tx.length≤100000000:=by
  have:=hI.1
  rw[hfs,wtFs_cons] at this;unfold wtF wtR at this;omega
 have hflt:st.faults.length≤10000000000:=by have:=hI.2.1;omega
 have HLR:Hid (len=r.length+1):=by unfold Hid;rw[hl,hfs];rfl
 have hr17:r.length≤17:=by have:=HLR.out;omega
 have rz:(s.extract i s.size).size=s.size-i:=by simp
 have rz1:0<(s.extract i s.size).size:=by omega
 have rz2:(s.extract i s.size).size≤100000000:=by omega
 have G0:Hid ((s.extract i s.size)[0]'rz1=s.data.toList.getD i 0):=rest_get (s:=s) (i:=i) 0 rz1;have RL:=Lib.hid (rest_list s i);have q92:((((s.extract i s.size)[0]'rz1).toNat:Int)==92)=true:=by
  rw[G0.out];exact isB (d:=92) rfl hc
 have rz3:1<(s.extract i s.size).size:=by omega
 have e1:IntKind.i64.wrap ((i:Int)+2)=((i+2:Nat):Int):=by rw[show (i:Int)+2=((i+2:Nat):Int) by omega];exact IntWalk.i64_in _ (by omega)
 have ce:∀w,Calls Tryz.prog 199 #[.int .u8 (((s.extract i s.size)[1]'rz3).toNat:Int)] w fun e w'=>e=.returned (.bool true)∧w=w':=fun w=>by
  have:=escaped_any ((s.extract i s.size)[1]'rz3) w
  rw[rest_get 1 rz3,he] at this;rw[rest_get 1 rz3];exact this
 have RX:Hid (((s.extract i s.size).extract 1 2).data.toList=[s.data.toList.getD (i+1) 0]):=by
  unfold Hid;rw[cut_list,rest_list,List.drop_drop];have hlt:i+1<s.data.toList.length:=by simpa using hn
  rw[List.drop_eq_getElem_cons hlt,List.getD_eq_getElem?_getD,List.getElem?_eq_getElem hlt];rfl
 have C0:=Lib.hid c0;have H:=Lib.hid h;have HPD:=Lib.hid (fun k=>PSx.drewN h k);have HFS:=Lib.hid hfs;have HL:=Lib.hid hl;clear hc he hm hI h1 h17 h hl hfs G0 RL;obtain⟨R,hR⟩:∃R,s.extract i s.size=R:=⟨_,rfl⟩;rw[hR] at rz;have RZ:=Lib.hid rz;clear rz;simp only[hR] at rz1 rz2 rz3 q92 ce RX;have rz4:(2:Int)≤(R.size:Int):=by omega
 go_enter Tryz.func164,Tryz.ntmps164
 go_wp2_with (first
  | (go_at_call 199;refine (ce _).mono ?_;rintro e w' ⟨rfl,rfl⟩)
  | fail)
 refine wp_region_held_drew (S:=(fun w'=>w'.cell? ⟨pb,0,none⟩=some (.string s))) (by kernel_rfl) ?_ (fun hHeld0=>?_)
 ·(try dsimp only)
  first|exact C0.out|exact z0
 refine tkHo 0 ?_;refine tkHo 4 ?_;refine tkHo 5 ?_;refine rdyH [1] ?_;refine AllReadyH.cons rfl (fun K hK=>?_) AllReadyH.nil;go_simp;refine (top_any (n:=r.length) (by rw[←HLR.out];exact HPD.out _) (by omega)).mono ?_;rintro e w3 ⟨rfl,kk,rfl⟩
 go_wp2_with fail
 refine hK.out _ _ ?_ (fun hHeld1=>?_)
 ·(try dsimp only)
  first|exact C0.out|exact z0
 clear hK K hHeld0
 (try go_frame)
 refine tkHo 2 ?_;refine tkHo 3 ?_;refine rdyH [6] ?_;refine AllReadyH.cons rfl (fun K hK=>?_) AllReadyH.nil;go_simp;refine (writeTop_any (HPD.out _) HFS.out (R.extract 1 2) (by simp;omega) (by omega)).mono ?_;rintro e w4 ⟨rfl,col4,cs4,h4,st4⟩;have st5:=st4.undrew;have H4:=Lib.hid h4;have ST4:=Lib.hid st5;have z0:=h4.hp.cell 0;clear h4 st4 st5
 go_wp2_with fail
 refine hK.out _ _ ?_ (fun hHeld2=>?_)
 ·(try dsimp only)
  first|exact C0.out|exact z0
 clear hK K hHeld1
 (try go_frame)
 refine wpAnyH_done (by kernel_rfl) ?_ _;go_wp2
 go_ret
 refine⟨rfl,col4,ob,cap,fv,cs4,gn,?_,ST4.out⟩;have e:(R.extract 1 2).data.toList=[s.data.toList.getD (i+1) 0]:=RX.out;have H5:=H4.out;rw[e] at H5;rw[writeLen,←HL.out];exact H5.on (by omega)
theorem step_code (h:PSx Tryz.prog w B col pb ob cap len s st i fv gb cs gn) (hl:len=st.fs.length) (hI:Inv st i) (hi:i<s.size) (hs:s.size≤100000000) (m:Int) (hm:w.cell? ⟨0,0,none⟩=some (.int .i64 m)) (hB:0<B) (hc:s.data.toList.getD i 0=96) :
  Calls Tryz.prog 164 #[.pointer (some ⟨pb,0,none⟩),.int .i64 (i:Int)] w fun e w'=>e=.returned (.int .i64 (((st.between s.data.toList i [96] [96] codeS).2:Nat):Int))∧StepPost B pb s gb w col (st.between s.data.toList i [96] [96] codeS).1 ((st.between s.data.toList i [96] [96] codeS).2) w':=by
 have h17:=hI.2.2.2;have h1:=hI.2.2.1;have c0:=h.hp.cell 0;obtain⟨f,r,hfs⟩:∃f r,st.fs=f::r:=by
  match hq:st.fs,hI.2.2.1 with
  | f::r,_=>exact⟨f,r,rfl⟩
  | [],hq2=>simp at hq2
 have hftx:f.row.tx.length≤100000000:=by
  have:=hI.1
  rw[hfs,wtFs_cons] at this;unfold wtF wtR at this;omega
 have hflt:st.faults.length≤10000000000:=by have:=hI.2.1;omega
 have HLR:Hid (len=r.length+1):=by unfold Hid;rw[hl,hfs];rfl
 have hr17:r.length≤17:=by have:=HLR.out;omega
 have rz:(s.extract i s.size).size=s.size-i:=by simp
 have rz1:0<(s.extract i s.size).size:=by omega
 have rz2:(s.extract i s.size).size≤100000000:=by omega
 have G0:Hid ((s.extract i s.size)[0]'rz1=s.data.toList.getD i 0):=rest_get (s:=s) (i:=i) 0 rz1;have RL:=Lib.hid (rest_list s i);have q92:((((s.extract i s.size)[0]'rz1).toNat:Int)==92)=false:=by
  rw[G0.out];exact neB (d:=92) rfl (by rw[hc];decide)
 have q96:((((s.extract i s.size)[0]'rz1).toNat:Int)==96)=true:=by
  rw[G0.out];exact isB (d:=96) rfl hc
 have cb:Calls Tryz.prog 201 #[.pointer (some ⟨pb,0,none⟩),.int .i64 (i:Int),.string ⟨#[96]⟩,.string ⟨#[96]⟩,.func (.func 202) #[] #[]] w fun e w'=>e=.returned (.int .i64 ((st.between s.data.toList i [96] [96] codeS).2:Nat))∧StepPost B pb s gb w col (st.between s.data.toList i [96] [96] codeS).1 (st.between s.data.toList i [96] [96] codeS).2 w' :=
  between_any h hl hI ⟨#[96]⟩ ⟨#[96]⟩ (by decide) (by decide) (by decide) (by decide) (by show i+1≤s.size;omega) hs _ m hm hB code_any (.inl rfl)
 have C0:=Lib.hid c0;have H:=Lib.hid h;have HPD:=Lib.hid (fun k=>PSx.drewN h k);have HFS:=Lib.hid hfs;have HL:=Lib.hid hl;have HI:=Lib.hid hI;generalize st.between s.data.toList i [96] [96] codeS=bt at cb;clear hc hm hI h1 h17 h hl hfs G0 RL;obtain⟨R,hR⟩:∃R,s.extract i s.size=R:=⟨_,rfl⟩;rw[hR] at rz;have RZ:=Lib.hid rz;clear rz;simp only[hR] at rz1 rz2 q92 q96
 go_enter Tryz.func164,Tryz.ntmps164
 go_wp2_with (first
  | (go_at_call 201;refine cb.mono ?_;rintro e w' ⟨rfl,hpost⟩)
  | fail)
 go_ret
 exact⟨rfl,hpost⟩
theorem step_ref (h:PSx Tryz.prog w B col pb ob cap len s st i fv gb cs gn) (hl:len=st.fs.length) (hI:Inv st i) (hi:i<s.size) (hs:s.size≤100000000) (m:Int) (hm:w.cell? ⟨0,0,none⟩=some (.int .i64 m)) (hB:0<B) (hc:s.data.toList.getD i 0=60) (hp:[60,60].isPrefixOf (s.data.toList.drop i)=true) :
  Calls Tryz.prog 164 #[.pointer (some ⟨pb,0,none⟩),.int .i64 (i:Int)] w fun e w'=>e=.returned (.int .i64 (((st.between s.data.toList i [60,60] [62,62] refS).2:Nat):Int))∧StepPost B pb s gb w col (st.between s.data.toList i [60,60] [62,62] refS).1 ((st.between s.data.toList i [60,60] [62,62] refS).2) w':=by
 have h17:=hI.2.2.2;have h1:=hI.2.2.1;have c0:=h.hp.cell 0;obtain⟨f,r,hfs⟩:∃f r,st.fs=f::r:=by
  match hq:st.fs,hI.2.2.1 with
  | f::r,_=>exact⟨f,r,rfl⟩
  | [],hq2=>simp at hq2
 have hftx:f.row.tx.length≤100000000:=by
  have:=hI.1
  rw[hfs,wtFs_cons] at this;unfold wtF wtR at this;omega
 have hflt:st.faults.length≤10000000000:=by have:=hI.2.1;omega
 have HLR:Hid (len=r.length+1):=by unfold Hid;rw[hl,hfs];rfl
 have hr17:r.length≤17:=by have:=HLR.out;omega
 have rz:(s.extract i s.size).size=s.size-i:=by simp
 have rz1:0<(s.extract i s.size).size:=by omega
 have rz2:(s.extract i s.size).size≤100000000:=by omega
 have G0:Hid ((s.extract i s.size)[0]'rz1=s.data.toList.getD i 0):=rest_get (s:=s) (i:=i) 0 rz1;have RL:=Lib.hid (rest_list s i);have q92:((((s.extract i s.size)[0]'rz1).toNat:Int)==92)=false:=by
  rw[G0.out];exact neB (d:=92) rfl (by rw[hc];decide)
 have q96:((((s.extract i s.size)[0]'rz1).toNat:Int)==96)=false:=by
  rw[G0.out];exact neB (d:=96) rfl (by rw[hc];decide)
 have p60:∀w,Calls Tryz.prog 77 #[.string (s.extract i s.size),.string ⟨#[60,60]⟩] w fun e w'=>e=.returned (.bool true)∧w'=w:=fun w=>by
  have:=Tryz.strings_HasPrefix (s.extract i s.size) ⟨#[60,60]⟩ w
  rw[pre_hasPrefix,RL.out,show (ByteArray.mk #[60,60]).data.toList=[60,60] from rfl,hp] at this;exact this
 have cb:Calls Tryz.prog 201 #[.pointer (some ⟨pb,0,none⟩),.int .i64 (i:Int),.string ⟨#[60,60]⟩,.string ⟨#[62,62]⟩,.func (.func 203) #[] #[]] w fun e w'=>e=.returned (.int .i64 ((st.between s.data.toList i [60,60] [62,62] refS).2:Nat))∧StepPost B pb s gb w col (st.between s.data.toList i [60,60] [62,62] refS).1 (st.between s.data.toList i [60,60] [62,62] refS).2 w' :=
  between_any h hl hI ⟨#[60,60]⟩ ⟨#[62,62]⟩ (by decide) (by decide) (by decide) (by decide) (by have:=prefix_two hp;simp at this;show i+2≤s.size;omega) hs _ m hm hB ref_any (.inr (.inl rfl))
 have C0:=Lib.hid c0;have H:=Lib.hid h;have HPD:=Lib.hid (fun k=>PSx.drewN h k);have HFS:=Lib.hid hfs;have HL:=Lib.hid hl;have HI:=Lib.hid hI;generalize st.between s.data.toList i [60,60] [62,62] refS=bt at cb;clear hc hm hI h1 h17 h hl hfs G0 RL;obtain⟨R,hR⟩:∃R,s.extract i s.size=R:=⟨_,rfl⟩;rw[hR] at rz;have RZ:=Lib.hid rz;clear rz;simp only[hR] at rz1 rz2 q92 q96 p60
 go_enter Tryz.func164,Tryz.ntmps164
 go_wp2_with (first
  | (go_at_call 77;(with_reducible refine (p60 _).mono ?_);rintro e w' ⟨rfl,rfl⟩)
  | (go_at_call 201;refine cb.mono ?_;rintro e w' ⟨rfl,hpost⟩)
  | fail)
 go_ret
 exact⟨rfl,hpost⟩
theorem step_term (h:PSx Tryz.prog w B col pb ob cap len s st i fv gb cs gn) (hl:len=st.fs.length) (hI:Inv st i) (hi:i<s.size) (hs:s.size≤100000000) (m:Int) (hm:w.cell? ⟨0,0,none⟩=some (.int .i64 m)) (hB:0<B) (hc:s.data.toList.getD i 0=40) (hp:[40,40].isPrefixOf (s.data.toList.drop i)=true) :
  Calls Tryz.prog 164 #[.pointer (some ⟨pb,0,none⟩),.int .i64 (i:Int)] w fun e w'=>e=.returned (.int .i64 (((st.between s.data.toList i [40,40] [41,41] termS).2:Nat):Int))∧StepPost B pb s gb w col (st.between s.data.toList i [40,40] [41,41] termS).1 ((st.between s.data.toList i [40,40] [41,41] termS).2) w':=by
 have h17:=hI.2.2.2;have h1:=hI.2.2.1;have c0:=h.hp.cell 0;obtain⟨f,r,hfs⟩:∃f r,st.fs=f::r:=by
  match hq:st.fs,hI.2.2.1 with
  | f::r,_=>exact⟨f,r,rfl⟩
  | [],hq2=>simp at hq2
 have hftx:f.row.tx.length≤100000000:=by
  have:=hI.1
  rw[hfs,wtFs_cons] at this;unfold wtF wtR at this;omega
 have hflt:st.faults.length≤10000000000:=by have:=hI.2.1;omega
 have HLR:Hid (len=r.length+1):=by unfold Hid;rw[hl,hfs];rfl
 have hr17:r.length≤17:=by have:=HLR.out;omega
 have rz:(s.extract i s.size).size=s.size-i:=by simp
 have rz1:0<(s.extract i s.size).size:=by omega
 have rz2:(s.extract i s.size).size≤100000000:=by omega
 have G0:Hid ((s.extract i s.size)[0]'rz1=s.data.toList.getD i 0):=rest_get (s:=s) (i:=i) 0 rz1;have RL:=Lib.hid (rest_list s i);have q92:((((s.extract i s.size)[0]'rz1).toNat:Int)==92)=false:=by
  rw[G0.out];exact neB (d:=92) rfl (by rw[hc];decide)
 have q96:((((s.extract i s.size)[0]'rz1).toNat:Int)==96)=false:=by
  rw[G0.out];exact neB (d:=96) rfl (by rw[hc];decide)
 have p60:∀w,Calls Tryz.prog 77 #[.string (s.extract i s.size),.string ⟨#[60,60]⟩] w fun e w'=>e=.returned (.bool false)∧w'=w:=fun w=>by
  have:=Tryz.strings_HasPrefix (s.extract i s.size) ⟨#[60,60]⟩ w
  rw[pre_hasPrefix,RL.out,show (ByteArray.mk #[60,60]).data.toList=[60,60] from rfl,pre_ne (by simpa using hi) (by rw[hc];decide)] at this;exact this
 have p40:∀w,Calls Tryz.prog 77 #[.string (s.extract i s.size),.string ⟨#[40,40]⟩] w fun e w'=>e=.returned (.bool true)∧w'=w:=fun w=>by
  have:=Tryz.strings_HasPrefix (s.extract i s.size) ⟨#[40,40]⟩ w
  rw[pre_hasPrefix,RL.out,show (ByteArray.mk #[40,40]).data.toList=[40,40] from rfl,hp] at this;exact this
 have cb:Calls Tryz.prog 201 #[.pointer (some ⟨pb,0,none⟩),.int .i64 (i:Int),.string ⟨#[40,40]⟩,.string ⟨#[41,41]⟩,.func (.func 204) #[] #[]] w fun e w'=>e=.returned (.int .i64 ((st.between s.data.toList i [40,40] [41,41] termS).2:Nat))∧StepPost B pb s gb w col (st.between s.data.toList i [40,40] [41,41] termS).1 (st.between s.data.toList i [40,40] [41,41] termS).2 w' :=
  between_any h hl hI ⟨#[40,40]⟩ ⟨#[41,41]⟩ (by decide) (by decide) (by decide) (by decide) (by have:=prefix_two hp;simp at this;show i+2≤s.size;omega) hs _ m hm hB term_any (.inr (.inr rfl))
 have C0:=Lib.hid c0;have H:=Lib.hid h;have HPD:=Lib.hid (fun k=>PSx.drewN h k);have HFS:=Lib.hid hfs;have HL:=Lib.hid hl;have HI:=Lib.hid hI;generalize st.between s.data.toList i [40,40] [41,41] termS=bt at cb;clear hc hm hI h1 h17 h hl hfs G0 RL;obtain⟨R,hR⟩:∃R,s.extract i s.size=R:=⟨_,rfl⟩;rw[hR] at rz;have RZ:=Lib.hid rz;clear rz;simp only[hR] at rz1 rz2 q92 q96 p60 p40
 go_enter Tryz.func164,Tryz.ntmps164
 go_wp2_with (first
  | (go_at_call 77;(with_reducible refine (p60 _).mono ?_);rintro e w' ⟨rfl,rfl⟩)
  | (go_at_call 77;(with_reducible refine (p40 _).mono ?_);rintro e w' ⟨rfl,rfl⟩)
  | (go_at_call 201;refine cb.mono ?_;rintro e w' ⟨rfl,hpost⟩)
  | fail)
 go_ret
 exact⟨rfl,hpost⟩
theorem step_note (h:PSx Tryz.prog w B col pb ob cap len s st i fv gb cs gn) (hl:len=st.fs.length) (hI:Inv st i) (hi:i<s.size) (hs:s.size≤100000000) (m:Int) (hm:w.cell? ⟨0,0,none⟩=some (.int .i64 m)) (hB:0<B) (hc:s.data.toList.getD i 0=94) (hp:[94,91].isPrefixOf (s.data.toList.drop i)=true) (hr:st.room=true) :
  Calls Tryz.prog 164 #[.pointer (some ⟨pb,0,none⟩),.int .i64 (i:Int)] w fun e w'=>e=.returned (.int .i64 ((i+2:Nat):Int))∧StepPost B pb s gb w col (st.begin 6 i [94,91]) (i+2) w':=by
 have h17:=hI.2.2.2;have h1:=hI.2.2.1;have c0:=h.hp.cell 0;obtain⟨f,r,hfs⟩:∃f r,st.fs=f::r:=by
  match hq:st.fs,hI.2.2.1 with
  | f::r,_=>exact⟨f,r,rfl⟩
  | [],hq2=>simp at hq2
 have hftx:f.row.tx.length≤100000000:=by
  have:=hI.1
  rw[hfs,wtFs_cons] at this;unfold wtF wtR at this;omega
 have hflt:st.faults.length≤10000000000:=by have:=hI.2.1;omega
 have HLR:Hid (len=r.length+1):=by unfold Hid;rw[hl,hfs];rfl
 have hr17:r.length≤17:=by have:=HLR.out;omega
 have rz:(s.extract i s.size).size=s.size-i:=by simp
 have rz1:0<(s.extract i s.size).size:=by omega
 have rz2:(s.extract i s.size).size≤100000000:=by omega
 have G0:Hid ((s.extract i s.size)[0]'rz1=s.data.toList.getD i 0):=rest_get (s:=s) (i:=i) 0 rz1;have RL:=Lib.hid (rest_list s i);have q92:((((s.extract i s.size)[0]'rz1).toNat:Int)==92)=false:=by
  rw[G0.out];exact neB (d:=92) rfl (by rw[hc];decide)
 have q96:((((s.extract i s.size)[0]'rz1).toNat:Int)==96)=false:=by
  rw[G0.out];exact neB (d:=96) rfl (by rw[hc];decide)
 have p60:∀w,Calls Tryz.prog 77 #[.string (s.extract i s.size),.string ⟨#[60,60]⟩] w fun e w'=>e=.returned (.bool false)∧w'=w:=fun w=>by
  have:=Tryz.strings_HasPrefix (s.extract i s.size) ⟨#[60,60]⟩ w
  rw[pre_hasPrefix,RL.out,show (ByteArray.mk #[60,60]).data.toList=[60,60] from rfl,pre_ne (by simpa using hi) (by rw[hc];decide)] at this;exact this
 have p40:∀w,Calls Tryz.prog 77 #[.string (s.extract i s.size),.string ⟨#[40,40]⟩] w fun e w'=>e=.returned (.bool false)∧w'=w:=fun w=>by
  have:=Tryz.strings_HasPrefix (s.extract i s.size) ⟨#[40,40]⟩ w
  rw[pre_hasPrefix,RL.out,show (ByteArray.mk #[40,40]).data.toList=[40,40] from rfl,pre_ne (by simpa using hi) (by rw[hc];decide)] at this;exact this
 have p94:∀w,Calls Tryz.prog 77 #[.string (s.extract i s.size),.string ⟨#[94,91]⟩] w fun e w'=>e=.returned (.bool true)∧w'=w:=fun w=>by
  have:=Tryz.strings_HasPrefix (s.extract i s.size) ⟨#[94,91]⟩ w
  rw[pre_hasPrefix,RL.out,show (ByteArray.mk #[94,91]).data.toList=[94,91] from rfl,hp] at this;exact this
 have e1:IntKind.i64.wrap ((i:Int)+2)=((i+2:Nat):Int):=by rw[show (i:Int)+2=((i+2:Nat):Int) by omega];exact IntWalk.i64_in _ (by omega)
 have hin:=prefix_two hp;simp only[Array.length_toList,ByteArray.size_data] at hin;have cr:=room_any h hl (by omega) (by omega);rw[hr] at cr;have C0:=Lib.hid c0;have H:=Lib.hid h;have HPD:=Lib.hid (fun k=>PSx.drewN h k);have HFS:=Lib.hid hfs;have HL:=Lib.hid hl;have HI:=Lib.hid hI;have cbg:=begin_any h hl (by omega) 6 i [94,91];clear hc hr hp hm hI h1 h17 h hl hfs G0 RL;obtain⟨R,hR⟩:∃R,s.extract i s.size=R:=⟨_,rfl⟩;rw[hR] at rz;have RZ:=Lib.hid rz;clear rz;simp only[hR] at rz1 rz2 q92 q96 p60 p40 p94
 go_enter Tryz.func164,Tryz.ntmps164
 go_wp2_with (first
  | (go_at_call 77;(with_reducible refine (p60 _).mono ?_);rintro e w' ⟨rfl,rfl⟩)
  | (go_at_call 77;(with_reducible refine (p40 _).mono ?_);rintro e w' ⟨rfl,rfl⟩)
  | (go_at_call 77;(with_reducible refine (p94 _).mono ?_);rintro e w' ⟨rfl,rfl⟩)
  | (go_at_call 205;refine cr.mono ?_;rintro e w' ⟨rfl,rfl⟩)
  | fail)
 refine cbg.mono ?_;clear cbg;rintro e w2 ⟨rfl,col2,ob2,cap2,cs2,h2,st2⟩;have H2:=Lib.hid h2;have ST2:=Lib.hid st2;clear h2 st2;go_wp2
 go_ret
 exact⟨rfl,col2,ob2,cap2,fv,cs2,gn,by rw[beginLen,←HL.out];exact H2.out.on (by omega),ST2.out⟩
theorem step_full (h:PSx Tryz.prog w B col pb ob cap len s st i fv gb cs gn) (hl:len=st.fs.length) (hI:Inv st i) (hi:i<s.size) (hs:s.size≤100000000) (m:Int) (hm:w.cell? ⟨0,0,none⟩=some (.int .i64 m)) (hB:0<B) (hc:s.data.toList.getD i 0=94) (hp:[94,91].isPrefixOf (s.data.toList.drop i)=true) (hr:st.room=false) :
  Calls Tryz.prog 164 #[.pointer (some ⟨pb,0,none⟩),.int .i64 (i:Int)] w fun e w'=>e=.returned (.int .i64 ((i+2:Nat):Int))∧StepPost B pb s gb w col ((st.write [94,91]).tell i 7) (i+2) w':=by
 have h17:=hI.2.2.2;have h1:=hI.2.2.1;have c0:=h.hp.cell 0;obtain⟨f,r,hfs⟩:∃f r,st.fs=f::r:=by
  match hq:st.fs,hI.2.2.1 with
  | f::r,_=>exact⟨f,r,rfl⟩
  | [],hq2=>simp at hq2
 have hftx:f.row.tx.length≤100000000:=by
  have:=hI.1
  rw[hfs,wtFs_cons] at this;unfold wtF wtR at this;omega
 have hflt:st.faults.length≤10000000000:=by have:=hI.2.1;omega
 have HLR:Hid (len=r.length+1):=by unfold Hid;rw[hl,hfs];rfl
 have hr17:r.length≤17:=by have:=HLR.out;omega
 have rz:(s.extract i s.size).size=s.size-i:=by simp
 have rz1:0<(s.extract i s.size).size:=by omega
 have rz2:(s.extract i s.size).size≤100000000:=by omega
 have G0:Hid ((s.extract i s.size)[0]'rz1=s.data.toList.getD i 0):=rest_get (s:=s) (i:=i) 0 rz1;have RL:=Lib.hid (rest_list s i);have q92:((((s.extract i s.size)[0]'rz1).toNat:Int)==92)=false:=by
  rw[G0.out];exact neB (d:=92) rfl (by rw[hc];decide)
 have q96:((((s.extract i s.size)[0]'rz1).toNat:Int)==96)=false:=by
  rw[G0.out];exact neB (d:=96) rfl (by rw[hc];decide)
 have p60:∀w,Calls Tryz.prog 77 #[.string (s.extract i s.size),.string ⟨#[60,60]⟩] w fun e w'=>e=.returned (.bool false)∧w'=w:=fun w=>by
  have:=Tryz.strings_HasPrefix (s.extract i s.size) ⟨#[60,60]⟩ w
  rw[pre_hasPrefix,RL.out,show (ByteArray.mk #[60,60]).data.toList=[60,60] from rfl,pre_ne (by simpa using hi) (by rw[hc];decide)] at this;exact this
 have p40:∀w,Calls Tryz.prog 77 #[.string (s.extract i s.size),.string ⟨#[40,40]⟩] w fun e w'=>e=.returned (.bool false)∧w'=w:=fun w=>by
  have:=Tryz.strings_HasPrefix (s.extract i s.size) ⟨#[40,40]⟩ w
  rw[pre_hasPrefix,RL.out,show (ByteArray.mk #[40,40]).data.toList=[40,40] from rfl,pre_ne (by simpa using hi) (by rw[hc];decide)] at this;exact this
 have p94:∀w,Calls Tryz.prog 77 #[.string (s.extract i s.size),.string ⟨#[94,91]⟩] w fun e w'=>e=.returned (.bool true)∧w'=w:=fun w=>by
  have:=Tryz.strings_HasPrefix (s.extract i s.size) ⟨#[94,91]⟩ w
  rw[pre_hasPrefix,RL.out,show (ByteArray.mk #[94,91]).data.toList=[94,91] from rfl,hp] at this;exact this
 have e1:IntKind.i64.wrap ((i:Int)+2)=((i+2:Nat):Int):=by rw[show (i:Int)+2=((i+2:Nat):Int) by omega];exact IntWalk.i64_in _ (by omega)
 have hin:=prefix_two hp;simp only[Array.length_toList,ByteArray.size_data] at hin;have cr:=room_any h hl (by omega) (by omega);rw[hr] at cr;have C0:=Lib.hid c0;have H:=Lib.hid h;have HPD:=Lib.hid (fun k=>PSx.drewN h k);have HFS:=Lib.hid hfs;have HL:=Lib.hid hl;have HI:=Lib.hid hI;clear hc hr hp hm hI h1 h17 h hl hfs G0 RL;obtain⟨R,hR⟩:∃R,s.extract i s.size=R:=⟨_,rfl⟩;rw[hR] at rz;have RZ:=Lib.hid rz;clear rz;simp only[hR] at rz1 rz2 q92 q96 p60 p40 p94
 go_enter Tryz.func164,Tryz.ntmps164
 go_wp2_with (first
  | (go_at_call 77;(with_reducible refine (p60 _).mono ?_);rintro e w' ⟨rfl,rfl⟩)
  | (go_at_call 77;(with_reducible refine (p40 _).mono ?_);rintro e w' ⟨rfl,rfl⟩)
  | (go_at_call 77;(with_reducible refine (p94 _).mono ?_);rintro e w' ⟨rfl,rfl⟩)
  | (go_at_call 205;refine cr.mono ?_;rintro e w' ⟨rfl,rfl⟩)
  | fail)
 refine (top_any (n:=r.length) (by rw[←HLR.out];exact H.out) (by omega)).mono ?_;rintro e w2 ⟨rfl,kk,rfl⟩
 go_wp2_with fail
 refine (writeTop_any (HPD.out kk) HFS.out ⟨#[94,91]⟩ (by decide) (by omega)).mono ?_;rintro e w3 ⟨rfl,col3,cs3,h3,st3⟩;have H3:=Lib.hid h3;have ST3:=Lib.hid st3.undrew;clear h3 st3
 go_wp2_with fail
 refine (tell_any H3.out i 7 hflt).mono ?_;rintro e w4 ⟨rfl,col4,fv4,h4,st4⟩;have H4:=Lib.hid h4;have ST4:=Lib.hid (ST3.out.trans st4);clear h4 st4;go_wp2
 go_ret
 exact⟨rfl,col4,ob,cap,fv4,cs3,gn,by rw[tellLen,writeLen,←HL.out];exact H4.out.on (by omega),ST4.out⟩
theorem step_shut (h:PSx Tryz.prog w B col pb ob cap len s st i fv gb cs gn) (hl:len=st.fs.length) (hI:Inv st i) (hi:i<s.size) (hs:s.size≤100000000) (m:Int) (hm:w.cell? ⟨0,0,none⟩=some (.int .i64 m)) (hB:0<B) (hc:s.data.toList.getD i 0=93) (hn:0<lastK 6 st.fs) :
  Calls Tryz.prog 164 #[.pointer (some ⟨pb,0,none⟩),.int .i64 (i:Int)] w fun e w'=>e=.returned (.int .i64 ((i+1:Nat):Int))∧StepPost B pb s gb w col (st.fin (lastK 6 st.fs)) (i+1) w':=by
 have h17:=hI.2.2.2;have h1:=hI.2.2.1;have c0:=h.hp.cell 0;obtain⟨f,r,hfs⟩:∃f r,st.fs=f::r:=by
  match hq:st.fs,hI.2.2.1 with
  | f::r,_=>exact⟨f,r,rfl⟩
  | [],hq2=>simp at hq2
 have hftx:f.row.tx.length≤100000000:=by
  have:=hI.1
  rw[hfs,wtFs_cons] at this;unfold wtF wtR at this;omega
 have hflt:st.faults.length≤10000000000:=by have:=hI.2.1;omega
 have HLR:Hid (len=r.length+1):=by unfold Hid;rw[hl,hfs];rfl
 have hr17:r.length≤17:=by have:=HLR.out;omega
 have rz:(s.extract i s.size).size=s.size-i:=by simp
 have rz1:0<(s.extract i s.size).size:=by omega
 have rz2:(s.extract i s.size).size≤100000000:=by omega
 have G0:Hid ((s.extract i s.size)[0]'rz1=s.data.toList.getD i 0):=rest_get (s:=s) (i:=i) 0 rz1;have RL:=Lib.hid (rest_list s i);have q92:((((s.extract i s.size)[0]'rz1).toNat:Int)==92)=false:=by
  rw[G0.out];exact neB (d:=92) rfl (by rw[hc];decide)
 have q96:((((s.extract i s.size)[0]'rz1).toNat:Int)==96)=false:=by
  rw[G0.out];exact neB (d:=96) rfl (by rw[hc];decide)
 have q93:((((s.extract i s.size)[0]'rz1).toNat:Int)==93)=true:=by
  rw[G0.out];exact isB (d:=93) rfl hc
 have p60:∀w,Calls Tryz.prog 77 #[.string (s.extract i s.size),.string ⟨#[60,60]⟩] w fun e w'=>e=.returned (.bool false)∧w'=w:=fun w=>by
  have:=Tryz.strings_HasPrefix (s.extract i s.size) ⟨#[60,60]⟩ w
  rw[pre_hasPrefix,RL.out,show (ByteArray.mk #[60,60]).data.toList=[60,60] from rfl,pre_ne (by simpa using hi) (by rw[hc];decide)] at this;exact this
 have p40:∀w,Calls Tryz.prog 77 #[.string (s.extract i s.size),.string ⟨#[40,40]⟩] w fun e w'=>e=.returned (.bool false)∧w'=w:=fun w=>by
  have:=Tryz.strings_HasPrefix (s.extract i s.size) ⟨#[40,40]⟩ w
  rw[pre_hasPrefix,RL.out,show (ByteArray.mk #[40,40]).data.toList=[40,40] from rfl,pre_ne (by simpa using hi) (by rw[hc];decide)] at this;exact this
 have p94:∀w,Calls Tryz.prog 77 #[.string (s.extract i s.size),.string ⟨#[94,91]⟩] w fun e w'=>e=.returned (.bool false)∧w'=w:=fun w=>by
  have:=Tryz.strings_HasPrefix (s.extract i s.size) ⟨#[94,91]⟩ w
  rw[pre_hasPrefix,RL.out,show (ByteArray.mk #[94,91]).data.toList=[94,91] from rfl,pre_ne (by simpa using hi) (by rw[hc];decide)] at this;exact this
 have e1:IntKind.i64.wrap ((i:Int)+1)=((i+1:Nat):Int):=by rw[show (i:Int)+1=((i+1:Nat):Int) by omega];exact IntWalk.i64_in _ (by omega)
 have cl:=last_any h hl (by omega) (by omega) 6;have hla:lastK 6 st.fs<len:=by rcases lastK_lt 6 st.fs with h0|h0<;>omega
 have C0:=Lib.hid c0;have H:=Lib.hid h;have HPD:=Lib.hid (fun k=>PSx.drewN h k);have HFS:=Lib.hid hfs;have HL:=Lib.hid hl;have HI:=Lib.hid hI;generalize lastK 6 st.fs=n at cl hla hn ⊢;clear hc hm hI h1 h17 h hl hfs G0 RL;obtain⟨R,hR⟩:∃R,s.extract i s.size=R:=⟨_,rfl⟩;rw[hR] at rz;have RZ:=Lib.hid rz;clear rz;simp only[hR] at rz1 rz2 q92 q96 q93 p60 p40 p94
 go_enter Tryz.func164,Tryz.ntmps164
 go_wp2_with (first
  | (go_at_call 77;(with_reducible refine (p60 _).mono ?_);rintro e w' ⟨rfl,rfl⟩)
  | (go_at_call 77;(with_reducible refine (p40 _).mono ?_);rintro e w' ⟨rfl,rfl⟩)
  | (go_at_call 77;(with_reducible refine (p94 _).mono ?_);rintro e w' ⟨rfl,rfl⟩)
  | (go_at_call 208;refine cl.mono ?_;rintro e w' ⟨rfl,rfl⟩)
  | fail)
 refine (end_any H.out HL.out n (by omega) hla i HI.out (by omega)).mono ?_;rintro e w2 ⟨rfl,col2,fv2,cs2,h2,st2⟩;have H2:=Lib.hid h2;have ST2:=Lib.hid st2;clear h2 st2 cl;go_wp2
 go_ret
 have hfl:=finLen HI.out (n:=n) (by omega) (by rw[←HL.out];exact hla);exact⟨rfl,col2,ob,cap,fv2,cs2,gn,by rw[hfl];exact H2.out.on (by omega),ST2.out⟩
theorem step_starW (h:PSx Tryz.prog w B col pb ob cap len s st i fv gb cs gn) (hl:len=st.fs.length) (hI:Inv st i) (hi:i<s.size) (hs:s.size≤100000000) (m:Int) (hm:w.cell? ⟨0,0,none⟩=some (.int .i64 m)) (hB:0<B) (hc:s.data.toList.getD i 0=42) :
  Calls Tryz.prog 164 #[.pointer (some ⟨pb,0,none⟩),.int .i64 (i:Int)] w fun e w'=>e=.returned (.int .i64 ((i+1:Nat):Int))∧StepPost B pb s gb w col (st.mark s.data.toList i 1) (i+1) w':=by
 have h17:=hI.2.2.2;have h1:=hI.2.2.1;have c0:=h.hp.cell 0;obtain⟨f,r,hfs⟩:∃f r,st.fs=f::r:=by
  match hq:st.fs,hI.2.2.1 with
  | f::r,_=>exact⟨f,r,rfl⟩
  | [],hq2=>simp at hq2
 have hftx:f.row.tx.length≤100000000:=by
  have:=hI.1
  rw[hfs,wtFs_cons] at this;unfold wtF wtR at this;omega
 have hflt:st.faults.length≤10000000000:=by have:=hI.2.1;omega
 have HLR:Hid (len=r.length+1):=by unfold Hid;rw[hl,hfs];rfl
 have hr17:r.length≤17:=by have:=HLR.out;omega
 have rz:(s.extract i s.size).size=s.size-i:=by simp
 have rz1:0<(s.extract i s.size).size:=by omega
 have rz2:(s.extract i s.size).size≤100000000:=by omega
 have G0:Hid ((s.extract i s.size)[0]'rz1=s.data.toList.getD i 0):=rest_get (s:=s) (i:=i) 0 rz1;have RL:=Lib.hid (rest_list s i);have q92:((((s.extract i s.size)[0]'rz1).toNat:Int)==92)=false:=by
  rw[G0.out];exact neB (d:=92) rfl (by rw[hc];decide)
 have q96:((((s.extract i s.size)[0]'rz1).toNat:Int)==96)=false:=by
  rw[G0.out];exact neB (d:=96) rfl (by rw[hc];decide)
 have q93:((((s.extract i s.size)[0]'rz1).toNat:Int)==93)=false:=by
  rw[G0.out];exact neB (d:=93) rfl (by rw[hc];decide)
 have q42:((((s.extract i s.size)[0]'rz1).toNat:Int)==42)=true:=by
  rw[G0.out];exact isB (d:=42) rfl hc
 have p60:∀w,Calls Tryz.prog 77 #[.string (s.extract i s.size),.string ⟨#[60,60]⟩] w fun e w'=>e=.returned (.bool false)∧w'=w:=fun w=>by
  have:=Tryz.strings_HasPrefix (s.extract i s.size) ⟨#[60,60]⟩ w
  rw[pre_hasPrefix,RL.out,show (ByteArray.mk #[60,60]).data.toList=[60,60] from rfl,pre_ne (by simpa using hi) (by rw[hc];decide)] at this;exact this
 have p40:∀w,Calls Tryz.prog 77 #[.string (s.extract i s.size),.string ⟨#[40,40]⟩] w fun e w'=>e=.returned (.bool false)∧w'=w:=fun w=>by
  have:=Tryz.strings_HasPrefix (s.extract i s.size) ⟨#[40,40]⟩ w
  rw[pre_hasPrefix,RL.out,show (ByteArray.mk #[40,40]).data.toList=[40,40] from rfl,pre_ne (by simpa using hi) (by rw[hc];decide)] at this;exact this
 have p94:∀w,Calls Tryz.prog 77 #[.string (s.extract i s.size),.string ⟨#[94,91]⟩] w fun e w'=>e=.returned (.bool false)∧w'=w:=fun w=>by
  have:=Tryz.strings_HasPrefix (s.extract i s.size) ⟨#[94,91]⟩ w
  rw[pre_hasPrefix,RL.out,show (ByteArray.mk #[94,91]).data.toList=[94,91] from rfl,pre_ne (by simpa using hi) (by rw[hc];decide)] at this;exact this
 have e1:IntKind.i64.wrap ((i:Int)+1)=((i+1:Nat):Int):=by rw[show (i:Int)+1=((i+1:Nat):Int) by omega];exact IntWalk.i64_in _ (by omega)
 have cm:=mark_any h hl hI hi hs 1;have C0:=Lib.hid c0;have H:=Lib.hid h;have HPD:=Lib.hid (fun k=>PSx.drewN h k);have HFS:=Lib.hid hfs;have HL:=Lib.hid hl;have HI:=Lib.hid hI;clear hc hm hI h1 h17 h hl hfs G0 RL;obtain⟨R,hR⟩:∃R,s.extract i s.size=R:=⟨_,rfl⟩;rw[hR] at rz;have RZ:=Lib.hid rz;clear rz;simp only[hR] at rz1 rz2 q92 q96 q93 q42 p60 p40 p94
 go_enter Tryz.func164,Tryz.ntmps164
 go_wp2_with (first
  | (go_at_call 77;(with_reducible refine (p60 _).mono ?_);rintro e w' ⟨rfl,rfl⟩)
  | (go_at_call 77;(with_reducible refine (p40 _).mono ?_);rintro e w' ⟨rfl,rfl⟩)
  | (go_at_call 77;(with_reducible refine (p94 _).mono ?_);rintro e w' ⟨rfl,rfl⟩)
  | fail)
 refine cm.mono ?_;clear cm;rintro e w2 ⟨rfl,col2,ob2,cap2,fv2,cs2,h2,st2⟩;have H2:=Lib.hid h2;have ST2:=Lib.hid st2;clear h2 st2;go_wp2
 go_ret
 exact⟨rfl,col2,ob2,cap2,fv2,cs2,gn,H2.out.on (by omega),ST2.out⟩
theorem step_barW (h:PSx Tryz.prog w B col pb ob cap len s st i fv gb cs gn) (hl:len=st.fs.length) (hI:Inv st i) (hi:i<s.size) (hs:s.size≤100000000) (m:Int) (hm:w.cell? ⟨0,0,none⟩=some (.int .i64 m)) (hB:0<B) (hc:s.data.toList.getD i 0=95) :
  Calls Tryz.prog 164 #[.pointer (some ⟨pb,0,none⟩),.int .i64 (i:Int)] w fun e w'=>e=.returned (.int .i64 ((i+1:Nat):Int))∧StepPost B pb s gb w col (st.mark s.data.toList i 2) (i+1) w':=by
 have h17:=hI.2.2.2;have h1:=hI.2.2.1;have c0:=h.hp.cell 0;obtain⟨f,r,hfs⟩:∃f r,st.fs=f::r:=by
  match hq:st.fs,hI.2.2.1 with
  | f::r,_=>exact⟨f,r,rfl⟩
  | [],hq2=>simp at hq2
 have hftx:f.row.tx.length≤100000000:=by
  have:=hI.1
  rw[hfs,wtFs_cons] at this;unfold wtF wtR at this;omega
 have hflt:st.faults.length≤10000000000:=by have:=hI.2.1;omega
 have HLR:Hid (len=r.length+1):=by unfold Hid;rw[hl,hfs];rfl
 have hr17:r.length≤17:=by have:=HLR.out;omega
 have rz:(s.extract i s.size).size=s.size-i:=by simp
 have rz1:0<(s.extract i s.size).size:=by omega
 have rz2:(s.extract i s.size).size≤100000000:=by omega
 have G0:Hid ((s.extract i s.size)[0]'rz1=s.data.toList.getD i 0):=rest_get (s:=s) (i:=i) 0 rz1;have RL:=Lib.hid (rest_list s i);have q92:((((s.extract i s.size)[0]'rz1).toNat:Int)==92)=false:=by
  rw[G0.out];exact neB (d:=92) rfl (by rw[hc];decide)
 have q96:((((s.extract i s.size)[0]'rz1).toNat:Int)==96)=false:=by
  rw[G0.out];exact neB (d:=96) rfl (by rw[hc];decide)
 have q93:((((s.extract i s.size)[0]'rz1).toNat:Int)==93)=false:=by
  rw[G0.out];exact neB (d:=93) rfl (by rw[hc];decide)
 have q42:((((s.extract i s.size)[0]'rz1).toNat:Int)==42)=false:=by
  rw[G0.out];exact neB (d:=42) rfl (by rw[hc];decide)
 have q95:((((s.extract i s.size)[0]'rz1).toNat:Int)==95)=true:=by
  rw[G0.out];exact isB (d:=95) rfl hc
 have p60:∀w,Calls Tryz.prog 77 #[.string (s.extract i s.size),.string ⟨#[60,60]⟩] w fun e w'=>e=.returned (.bool false)∧w'=w:=fun w=>by
  have:=Tryz.strings_HasPrefix (s.extract i s.size) ⟨#[60,60]⟩ w
  rw[pre_hasPrefix,RL.out,show (ByteArray.mk #[60,60]).data.toList=[60,60] from rfl,pre_ne (by simpa using hi) (by rw[hc];decide)] at this;exact this
 have p40:∀w,Calls Tryz.prog 77 #[.string (s.extract i s.size),.string ⟨#[40,40]⟩] w fun e w'=>e=.returned (.bool false)∧w'=w:=fun w=>by
  have:=Tryz.strings_HasPrefix (s.extract i s.size) ⟨#[40,40]⟩ w
  rw[pre_hasPrefix,RL.out,show (ByteArray.mk #[40,40]).data.toList=[40,40] from rfl,pre_ne (by simpa using hi) (by rw[hc];decide)] at this;exact this
 have p94:∀w,Calls Tryz.prog 77 #[.string (s.extract i s.size),.string ⟨#[94,91]⟩] w fun e w'=>e=.returned (.bool false)∧w'=w:=fun w=>by
  have:=Tryz.strings_HasPrefix (s.extract i s.size) ⟨#[94,91]⟩ w
  rw[pre_hasPrefix,RL.out,show (ByteArray.mk #[94,91]).data.toList=[94,91] from rfl,pre_ne (by simpa using hi) (by rw[hc];decide)] at this;exact this
 have e1:IntKind.i64.wrap ((i:Int)+1)=((i+1:Nat):Int):=by rw[show (i:Int)+1=((i+1:Nat):Int) by omega];exact IntWalk.i64_in _ (by omega)
 have cm:=mark_any h hl hI hi hs 2;have C0:=Lib.hid c0;have H:=Lib.hid h;have HPD:=Lib.hid (fun k=>PSx.drewN h k);have HFS:=Lib.hid hfs;have HL:=Lib.hid hl;have HI:=Lib.hid hI;clear hc hm hI h1 h17 h hl hfs G0 RL;obtain⟨R,hR⟩:∃R,s.extract i s.size=R:=⟨_,rfl⟩;rw[hR] at rz;have RZ:=Lib.hid rz;clear rz;simp only[hR] at rz1 rz2 q92 q96 q93 q42 q95 p60 p40 p94
 go_enter Tryz.func164,Tryz.ntmps164
 go_wp2_with (first
  | (go_at_call 77;(with_reducible refine (p60 _).mono ?_);rintro e w' ⟨rfl,rfl⟩)
  | (go_at_call 77;(with_reducible refine (p40 _).mono ?_);rintro e w' ⟨rfl,rfl⟩)
  | (go_at_call 77;(with_reducible refine (p94 _).mono ?_);rintro e w' ⟨rfl,rfl⟩)
  | fail)
 refine cm.mono ?_;clear cm;rintro e w2 ⟨rfl,col2,ob2,cap2,fv2,cs2,h2,st2⟩;have H2:=Lib.hid h2;have ST2:=Lib.hid st2;clear h2 st2;go_wp2
 go_ret
 exact⟨rfl,col2,ob2,cap2,fv2,cs2,gn,H2.out.on (by omega),ST2.out⟩
theorem step_short (h:PSx Tryz.prog w B col pb ob cap len s st i fv gb cs gn) (hl:len=st.fs.length) (hI:Inv st i) (hi:i<s.size) (hs:s.size≤100000000) (m:Int) (hm:w.cell? ⟨0,0,none⟩=some (.int .i64 m)) (hB:0<B) (hc:s.data.toList.getD i 0=92) (hn:¬i+1<s.size) :
  Calls Tryz.prog 164 #[.pointer (some ⟨pb,0,none⟩),.int .i64 (i:Int)] w fun e w'=>e=.returned (.int .i64 ((i+1:Nat):Int))∧StepPost B pb s gb w col (st.write [s.data.toList.getD i 0]) (i+1) w':=by
 have h17:=hI.2.2.2;have h1:=hI.2.2.1;have c0:=h.hp.cell 0;obtain⟨f,r,hfs⟩:∃f r,st.fs=f::r:=by
  match hq:st.fs,hI.2.2.1 with
  | f::r,_=>exact⟨f,r,rfl⟩
  | [],hq2=>simp at hq2
 have hftx:f.row.tx.length≤100000000:=by
  have:=hI.1
  rw[hfs,wtFs_cons] at this;unfold wtF wtR at this;omega
 have hflt:st.faults.length≤10000000000:=by have:=hI.2.1;omega
 have HLR:Hid (len=r.length+1):=by unfold Hid;rw[hl,hfs];rfl
 have hr17:r.length≤17:=by have:=HLR.out;omega
 have rz:(s.extract i s.size).size=s.size-i:=by simp
 have rz1:0<(s.extract i s.size).size:=by omega
 have rz2:(s.extract i s.size).size≤100000000:=by omega
 have G0:Hid ((s.extract i s.size)[0]'rz1=s.data.toList.getD i 0):=rest_get (s:=s) (i:=i) 0 rz1;have RL:=Lib.hid (rest_list s i);have q92:((((s.extract i s.size)[0]'rz1).toNat:Int)==92)=true:=by
  rw[G0.out];exact isB (d:=92) rfl hc
 have q96:((((s.extract i s.size)[0]'rz1).toNat:Int)==96)=false:=by
  rw[G0.out];exact neB (d:=96) rfl (by rw[hc];decide)
 have q93:((((s.extract i s.size)[0]'rz1).toNat:Int)==93)=false:=by
  rw[G0.out];exact neB (d:=93) rfl (by rw[hc];decide)
 have q42:((((s.extract i s.size)[0]'rz1).toNat:Int)==42)=false:=by
  rw[G0.out];exact neB (d:=42) rfl (by rw[hc];decide)
 have q95:((((s.extract i s.size)[0]'rz1).toNat:Int)==95)=false:=by
  rw[G0.out];exact neB (d:=95) rfl (by rw[hc];decide)
 have p60:∀w,Calls Tryz.prog 77 #[.string (s.extract i s.size),.string ⟨#[60,60]⟩] w fun e w'=>e=.returned (.bool false)∧w'=w:=fun w=>by
  have:=Tryz.strings_HasPrefix (s.extract i s.size) ⟨#[60,60]⟩ w
  rw[pre_hasPrefix,RL.out,show (ByteArray.mk #[60,60]).data.toList=[60,60] from rfl,pre_ne (by simpa using hi) (by rw[hc];decide)] at this;exact this
 have p40:∀w,Calls Tryz.prog 77 #[.string (s.extract i s.size),.string ⟨#[40,40]⟩] w fun e w'=>e=.returned (.bool false)∧w'=w:=fun w=>by
  have:=Tryz.strings_HasPrefix (s.extract i s.size) ⟨#[40,40]⟩ w
  rw[pre_hasPrefix,RL.out,show (ByteArray.mk #[40,40]).data.toList=[40,40] from rfl,pre_ne (by simpa using hi) (by rw[hc];decide)] at this;exact this
 have p94:∀w,Calls Tryz.prog 77 #[.string (s.extract i s.size),.string ⟨#[94,91]⟩] w fun e w'=>e=.returned (.bool false)∧w'=w:=fun w=>by
  have:=Tryz.strings_HasPrefix (s.extract i s.size) ⟨#[94,91]⟩ w
  rw[pre_hasPrefix,RL.out,show (ByteArray.mk #[94,91]).data.toList=[94,91] from rfl,pre_ne (by simpa using hi) (by rw[hc];decide)] at this;exact this
 have e1:IntKind.i64.wrap ((i:Int)+1)=((i+1:Nat):Int):=by rw[show (i:Int)+1=((i+1:Nat):Int) by omega];exact IntWalk.i64_in _ (by omega)
 have RX:Hid (((s.extract i s.size).extract 0 1).data.toList=[s.data.toList.getD i 0]):=by
  unfold Hid;rw[cut_list,rest_list,List.drop_drop];have hlt:i<s.data.toList.length:=by simpa using hi
  rw[Nat.add_zero,List.drop_eq_getElem_cons hlt,List.getD_eq_getElem?_getD,List.getElem?_eq_getElem hlt];rfl
 have rz3:((s.extract i s.size).size:Int)≤1:=by omega
 have C0:=Lib.hid c0;have H:=Lib.hid h;have HPD:=Lib.hid (fun k=>PSx.drewN h k);have HFS:=Lib.hid hfs;have HL:=Lib.hid hl;have HI:=Lib.hid hI;have rz4:(1:Int)≤((s.extract i s.size).size:Int):=by omega
 clear hc hn hm hI h1 h17 h hl hfs G0 RL;obtain⟨R,hR⟩:∃R,s.extract i s.size=R:=⟨_,rfl⟩;rw[hR] at rz;have RZ:=Lib.hid rz;clear rz;simp only[hR] at rz1 rz2 q92 q96 q93 q42 q95 p60 p40 p94 RX rz4 rz3
 go_enter Tryz.func164,Tryz.ntmps164
 go_wp2_with (first
  | (go_at_call 77;(with_reducible refine (p60 _).mono ?_);rintro e w' ⟨rfl,rfl⟩)
  | (go_at_call 77;(with_reducible refine (p40 _).mono ?_);rintro e w' ⟨rfl,rfl⟩)
  | (go_at_call 77;(with_reducible refine (p94 _).mono ?_);rintro e w' ⟨rfl,rfl⟩)
  | fail)
 refine wp_region_held_drew (S:=(fun w'=>w'.cell? ⟨pb,0,none⟩=some (.string s))) (by kernel_rfl) ?_ (fun hHeld0=>?_)
 ·(try dsimp only)
  first|exact C0.out|exact z0
 refine tkHo 0 ?_;refine tkHo 4 ?_;refine tkHo 5 ?_;refine rdyH [1] ?_;refine AllReadyH.cons rfl (fun K hK=>?_) AllReadyH.nil;go_simp;refine (top_any (n:=r.length) (by rw[←HLR.out];exact HPD.out _) (by omega)).mono ?_;rintro e w3 ⟨rfl,kk,rfl⟩
 go_wp2_with fail
 refine hK.out _ _ ?_ (fun hHeld1=>?_)
 ·(try dsimp only)
  first|exact C0.out|exact z0
 clear hK K hHeld0
 (try go_frame)
 refine tkHo 2 ?_;refine tkHo 3 ?_;refine rdyH [6] ?_;refine AllReadyH.cons rfl (fun K hK=>?_) AllReadyH.nil;go_simp;refine (writeTop_any (HPD.out _) HFS.out (R.extract 0 1) (by simp;omega) (by omega)).mono ?_;rintro e w4 ⟨rfl,col4,cs4,h4,st4⟩;have st5:=st4.undrew;have H4:=Lib.hid h4;have ST4:=Lib.hid st5;have z0:=h4.hp.cell 0;clear h4 st4 st5
 go_wp2_with fail
 refine hK.out _ _ ?_ (fun hHeld2=>?_)
 ·(try dsimp only)
  first|exact C0.out|exact z0
 clear hK K hHeld1
 (try go_frame)
 refine wpAnyH_done (by kernel_rfl) ?_ _;go_wp2
 go_ret
 refine⟨rfl,col4,ob,cap,fv,cs4,gn,?_,ST4.out⟩;have e:(R.extract 0 1).data.toList=[s.data.toList.getD i 0]:=RX.out;have H5:=H4.out;rw[e] at H5;rw[writeLen,←HL.out];exact H5.on (by omega)
theorem step_back (h:PSx Tryz.prog w B col pb ob cap len s st i fv gb cs gn) (hl:len=st.fs.length) (hI:Inv st i) (hi:i<s.size) (hs:s.size≤100000000) (m:Int) (hm:w.cell? ⟨0,0,none⟩=some (.int .i64 m)) (hB:0<B) (hc:s.data.toList.getD i 0=92) (hn:i+1<s.size) (he:escB (s.data.toList.getD (i+1) 0)=false) :
  Calls Tryz.prog 164 #[.pointer (some ⟨pb,0,none⟩),.int .i64 (i:Int)] w fun e w'=>e=.returned (.int .i64 ((i+1:Nat):Int))∧StepPost B pb s gb w col (st.write [s.data.toList.getD i 0]) (i+1) w':=by
 have h17:=hI.2.2.2;have h1:=hI.2.2.1;have c0:=h.hp.cell 0;obtain⟨f,r,hfs⟩:∃f r,st.fs=f::r:=by
  match hq:st.fs,hI.2.2.1 with
  | f::r,_=>exact⟨f,r,rfl⟩
  | [],hq2=>simp at hq2
 have hftx:f.row.tx.length≤100000000:=by
  have:=hI.1
  rw[hfs,wtFs_cons] at this;unfold wtF wtR at this;omega
 have hflt:st.faults.length≤10000000000:=by have:=hI.2.1;omega
 have HLR:Hid (len=r.length+1):=by unfold Hid;rw[hl,hfs];rfl
 have hr17:r.length≤17:=by have:=HLR.out;omega
 have rz:(s.extract i s.size).size=s.size-i:=by simp
 have rz1:0<(s.extract i s.size).size:=by omega
 have rz2:(s.extract i s.size).size≤100000000:=by omega
 have G0:Hid ((s.extract i s.size)[0]'rz1=s.data.toList.getD i 0):=rest_get (s:=s) (i:=i) 0 rz1;have RL:=Lib.hid (rest_list s i);have q92:((((s.extract i s.size)[0]'rz1).toNat:Int)==92)=true:=by
  rw[G0.out];exact isB (d:=92) rfl hc
 have q96:((((s.extract i s.size)[0]'rz1).toNat:Int)==96)=false:=by
  rw[G0.out];exact neB (d:=96) rfl (by rw[hc];decide)
 have q93:((((s.extract i s.size)[0]'rz1).toNat:Int)==93)=false:=by
  rw[G0.out];exact neB (d:=93) rfl (by rw[hc];decide)
 have q42:((((s.extract i s.size)[0]'rz1).toNat:Int)==42)=false:=by
  rw[G0.out];exact neB (d:=42) rfl (by rw[hc];decide)
 have q95:((((s.extract i s.size)[0]'rz1).toNat:Int)==95)=false:=by
  rw[G0.out];exact neB (d:=95) rfl (by rw[hc];decide)
 have p60:∀w,Calls Tryz.prog 77 #[.string (s.extract i s.size),.string ⟨#[60,60]⟩] w fun e w'=>e=.returned (.bool false)∧w'=w:=fun w=>by
  have:=Tryz.strings_HasPrefix (s.extract i s.size) ⟨#[60,60]⟩ w
  rw[pre_hasPrefix,RL.out,show (ByteArray.mk #[60,60]).data.toList=[60,60] from rfl,pre_ne (by simpa using hi) (by rw[hc];decide)] at this;exact this
 have p40:∀w,Calls Tryz.prog 77 #[.string (s.extract i s.size),.string ⟨#[40,40]⟩] w fun e w'=>e=.returned (.bool false)∧w'=w:=fun w=>by
  have:=Tryz.strings_HasPrefix (s.extract i s.size) ⟨#[40,40]⟩ w
  rw[pre_hasPrefix,RL.out,show (ByteArray.mk #[40,40]).data.toList=[40,40] from rfl,pre_ne (by simpa using hi) (by rw[hc];decide)] at this;exact this
 have p94:∀w,Calls Tryz.prog 77 #[.string (s.extract i s.size),.string ⟨#[94,91]⟩] w fun e w'=>e=.returned (.bool false)∧w'=w:=fun w=>by
  have:=Tryz.strings_HasPrefix (s.extract i s.size) ⟨#[94,91]⟩ w
  rw[pre_hasPrefix,RL.out,show (ByteArray.mk #[94,91]).data.toList=[94,91] from rfl,pre_ne (by simpa using hi) (by rw[hc];decide)] at this;exact this
 have e1:IntKind.i64.wrap ((i:Int)+1)=((i+1:Nat):Int):=by rw[show (i:Int)+1=((i+1:Nat):Int) by omega];exact IntWalk.i64_in _ (by omega)
 have RX:Hid (((s.extract i s.size).extract 0 1).data.toList=[s.data.toList.getD i 0]):=by
  unfold Hid;rw[cut_list,rest_list,List.drop_drop];have hlt:i<s.data.toList.length:=by simpa using hi
  rw[Nat.add_zero,List.drop_eq_getElem_cons hlt,List.getD_eq_getElem?_getD,List.getElem?_eq_getElem hlt];rfl
 have rz3:1<(s.extract i s.size).size:=by omega
 have ce:∀w,Calls Tryz.prog 199 #[.int .u8 (((s.extract i s.size)[1]'rz3).toNat:Int)] w fun e w'=>e=.returned (.bool false)∧w=w':=fun w=>by
  have:=escaped_any ((s.extract i s.size)[1]'rz3) w
  rw[rest_get 1 rz3,he] at this;rw[rest_get 1 rz3];exact this
 have C0:=Lib.hid c0;have H:=Lib.hid h;have HPD:=Lib.hid (fun k=>PSx.drewN h k);have HFS:=Lib.hid hfs;have HL:=Lib.hid hl;have HI:=Lib.hid hI;have rz4:(1:Int)≤((s.extract i s.size).size:Int):=by omega
 clear hc he hm hI h1 h17 h hl hfs G0 RL;obtain⟨R,hR⟩:∃R,s.extract i s.size=R:=⟨_,rfl⟩;rw[hR] at rz;have RZ:=Lib.hid rz;clear rz;simp only[hR] at rz1 rz2 q92 q96 q93 q42 q95 p60 p40 p94 RX rz4 rz3 ce
 go_enter Tryz.func164,Tryz.ntmps164
 go_wp2_with (first
  | (go_at_call 77;(with_reducible refine (p60 _).mono ?_);rintro e w' ⟨rfl,rfl⟩)
  | (go_at_call 77;(with_reducible refine (p40 _).mono ?_);rintro e w' ⟨rfl,rfl⟩)
  | (go_at_call 77;(with_reducible refine (p94 _).mono ?_);rintro e w' ⟨rfl,rfl⟩)
  | (go_at_call 199;refine (ce _).mono ?_;rintro e w' ⟨rfl,rfl⟩)
  | fail)
 refine wp_region_held_drew (S:=(fun w'=>w'.cell? ⟨pb,0,none⟩=some (.string s))) (by kernel_rfl) ?_ (fun hHeld0=>?_)
 ·(try dsimp only)
  first|exact C0.out|exact z0
 refine tkHo 0 ?_;refine tkHo 4 ?_;refine tkHo 5 ?_;refine rdyH [1] ?_;refine AllReadyH.cons rfl (fun K hK=>?_) AllReadyH.nil;go_simp;refine (top_any (n:=r.length) (by rw[←HLR.out];exact HPD.out _) (by omega)).mono ?_;rintro e w3 ⟨rfl,kk,rfl⟩
 go_wp2_with fail
 refine hK.out _ _ ?_ (fun hHeld1=>?_)
 ·(try dsimp only)
  first|exact C0.out|exact z0
 clear hK K hHeld0
 (try go_frame)
 refine tkHo 2 ?_;refine tkHo 3 ?_;refine rdyH [6] ?_;refine AllReadyH.cons rfl (fun K hK=>?_) AllReadyH.nil;go_simp;refine (writeTop_any (HPD.out _) HFS.out (R.extract 0 1) (by simp;omega) (by omega)).mono ?_;rintro e w4 ⟨rfl,col4,cs4,h4,st4⟩;have st5:=st4.undrew;have H4:=Lib.hid h4;have ST4:=Lib.hid st5;have z0:=h4.hp.cell 0;clear h4 st4 st5
 go_wp2_with fail
 refine hK.out _ _ ?_ (fun hHeld2=>?_)
 ·(try dsimp only)
  first|exact C0.out|exact z0
 clear hK K hHeld1
 (try go_frame)
 refine wpAnyH_done (by kernel_rfl) ?_ _;go_wp2
 go_ret
 refine⟨rfl,col4,ob,cap,fv,cs4,gn,?_,ST4.out⟩;have e:(R.extract 0 1).data.toList=[s.data.toList.getD i 0]:=RX.out;have H5:=H4.out;rw[e] at H5;rw[writeLen,←HL.out];exact H5.on (by omega)
theorem step_last (h:PSx Tryz.prog w B col pb ob cap len s st i fv gb cs gn) (hl:len=st.fs.length) (hI:Inv st i) (hi:i<s.size) (hs:s.size≤100000000) (m:Int) (hm:w.cell? ⟨0,0,none⟩=some (.int .i64 m)) (hB:0<B) (hc:s.data.toList.getD i 0=93) (hn:lastK 6 st.fs=0) :
  Calls Tryz.prog 164 #[.pointer (some ⟨pb,0,none⟩),.int .i64 (i:Int)] w fun e w'=>e=.returned (.int .i64 ((i+1:Nat):Int))∧StepPost B pb s gb w col (st.write [s.data.toList.getD i 0]) (i+1) w':=by
 have h17:=hI.2.2.2;have h1:=hI.2.2.1;have c0:=h.hp.cell 0;obtain⟨f,r,hfs⟩:∃f r,st.fs=f::r:=by
  match hq:st.fs,hI.2.2.1 with
  | f::r,_=>exact⟨f,r,rfl⟩
  | [],hq2=>simp at hq2
 have hftx:f.row.tx.length≤100000000:=by
  have:=hI.1
  rw[hfs,wtFs_cons] at this;unfold wtF wtR at this;omega
 have hflt:st.faults.length≤10000000000:=by have:=hI.2.1;omega
 have HLR:Hid (len=r.length+1):=by unfold Hid;rw[hl,hfs];rfl
 have hr17:r.length≤17:=by have:=HLR.out;omega
 have rz:(s.extract i s.size).size=s.size-i:=by simp
 have rz1:0<(s.extract i s.size).size:=by omega
 have rz2:(s.extract i s.size).size≤100000000:=by omega
 have G0:Hid ((s.extract i s.size)[0]'rz1=s.data.toList.getD i 0):=rest_get (s:=s) (i:=i) 0 rz1;have RL:=Lib.hid (rest_list s i);have q92:((((s.extract i s.size)[0]'rz1).toNat:Int)==92)=false:=by
  rw[G0.out];exact neB (d:=92) rfl (by rw[hc];decide)
 have q96:((((s.extract i s.size)[0]'rz1).toNat:Int)==96)=false:=by
  rw[G0.out];exact neB (d:=96) rfl (by rw[hc];decide)
 have q93:((((s.extract i s.size)[0]'rz1).toNat:Int)==93)=true:=by
  rw[G0.out];exact isB (d:=93) rfl hc
 have q42:((((s.extract i s.size)[0]'rz1).toNat:Int)==42)=false:=by
  rw[G0.out];exact neB (d:=42) rfl (by rw[hc];decide)
 have q95:((((s.extract i s.size)[0]'rz1).toNat:Int)==95)=false:=by
  rw[G0.out];exact neB (d:=95) rfl (by rw[hc];decide)
 have p60:∀w,Calls Tryz.prog 77 #[.string (s.extract i s.size),.string ⟨#[60,60]⟩] w fun e w'=>e=.returned (.bool false)∧w'=w:=fun w=>by
  have:=Tryz.strings_HasPrefix (s.extract i s.size) ⟨#[60,60]⟩ w
  rw[pre_hasPrefix,RL.out,show (ByteArray.mk #[60,60]).data.toList=[60,60] from rfl,pre_ne (by simpa using hi) (by rw[hc];decide)] at this;exact this
 have p40:∀w,Calls Tryz.prog 77 #[.string (s.extract i s.size),.string ⟨#[40,40]⟩] w fun e w'=>e=.returned (.bool false)∧w'=w:=fun w=>by
  have:=Tryz.strings_HasPrefix (s.extract i s.size) ⟨#[40,40]⟩ w
  rw[pre_hasPrefix,RL.out,show (ByteArray.mk #[40,40]).data.toList=[40,40] from rfl,pre_ne (by simpa using hi) (by rw[hc];decide)] at this;exact this
 have p94:∀w,Calls Tryz.prog 77 #[.string (s.extract i s.size),.string ⟨#[94,91]⟩] w fun e w'=>e=.returned (.bool false)∧w'=w:=fun w=>by
  have:=Tryz.strings_HasPrefix (s.extract i s.size) ⟨#[94,91]⟩ w
  rw[pre_hasPrefix,RL.out,show (ByteArray.mk #[94,91]).data.toList=[94,91] from rfl,pre_ne (by simpa using hi) (by rw[hc];decide)] at this;exact this
 have e1:IntKind.i64.wrap ((i:Int)+1)=((i+1:Nat):Int):=by rw[show (i:Int)+1=((i+1:Nat):Int) by omega];exact IntWalk.i64_in _ (by omega)
 have RX:Hid (((s.extract i s.size).extract 0 1).data.toList=[s.data.toList.getD i 0]):=by
  unfold Hid;rw[cut_list,rest_list,List.drop_drop];have hlt:i<s.data.toList.length:=by simpa using hi
  rw[Nat.add_zero,List.drop_eq_getElem_cons hlt,List.getD_eq_getElem?_getD,List.getElem?_eq_getElem hlt];rfl
 have cl:=last_any h hl (by omega) (by omega) 6;rw[hn] at cl;have C0:=Lib.hid c0;have H:=Lib.hid h;have HPD:=Lib.hid (fun k=>PSx.drewN h k);have HFS:=Lib.hid hfs;have HL:=Lib.hid hl;have HI:=Lib.hid hI;have rz4:(1:Int)≤((s.extract i s.size).size:Int):=by omega
 clear hc hn hm hI h1 h17 h hl hfs G0 RL;obtain⟨R,hR⟩:∃R,s.extract i s.size=R:=⟨_,rfl⟩;rw[hR] at rz;have RZ:=Lib.hid rz;clear rz;simp only[hR] at rz1 rz2 q92 q96 q93 q42 q95 p60 p40 p94 RX rz4
 go_enter Tryz.func164,Tryz.ntmps164
 go_wp2_with (first
  | (go_at_call 77;(with_reducible refine (p60 _).mono ?_);rintro e w' ⟨rfl,rfl⟩)
  | (go_at_call 77;(with_reducible refine (p40 _).mono ?_);rintro e w' ⟨rfl,rfl⟩)
  | (go_at_call 77;(with_reducible refine (p94 _).mono ?_);rintro e w' ⟨rfl,rfl⟩)
  | (go_at_call 208;refine cl.mono ?_;rintro e w' ⟨rfl,rfl⟩)
  | fail)
 refine wp_region_held_drew (S:=(fun w'=>w'.cell? ⟨pb,0,none⟩=some (.string s))) (by kernel_rfl) ?_ (fun hHeld0=>?_)
 ·(try dsimp only)
  first|exact C0.out|exact z0
 refine tkHo 0 ?_;refine tkHo 4 ?_;refine tkHo 5 ?_;refine rdyH [1] ?_;refine AllReadyH.cons rfl (fun K hK=>?_) AllReadyH.nil;go_simp;refine (top_any (n:=r.length) (by rw[←HLR.out];exact HPD.out _) (by omega)).mono ?_;rintro e w3 ⟨rfl,kk,rfl⟩
 go_wp2_with fail
 refine hK.out _ _ ?_ (fun hHeld1=>?_)
 ·(try dsimp only)
  first|exact C0.out|exact z0
 clear hK K hHeld0
 (try go_frame)
 refine tkHo 2 ?_;refine tkHo 3 ?_;refine rdyH [6] ?_;refine AllReadyH.cons rfl (fun K hK=>?_) AllReadyH.nil;go_simp;refine (writeTop_any (HPD.out _) HFS.out (R.extract 0 1) (by simp;omega) (by omega)).mono ?_;rintro e w4 ⟨rfl,col4,cs4,h4,st4⟩;have st5:=st4.undrew;have H4:=Lib.hid h4;have ST4:=Lib.hid st5;have z0:=h4.hp.cell 0;clear h4 st4 st5
 go_wp2_with fail
 refine hK.out _ _ ?_ (fun hHeld2=>?_)
 ·(try dsimp only)
  first|exact C0.out|exact z0
 clear hK K hHeld1
 (try go_frame)
 refine wpAnyH_done (by kernel_rfl) ?_ _;go_wp2
 go_ret
 refine⟨rfl,col4,ob,cap,fv,cs4,gn,?_,ST4.out⟩;have e:(R.extract 0 1).data.toList=[s.data.toList.getD i 0]:=RX.out;have H5:=H4.out;rw[e] at H5;rw[writeLen,←HL.out];exact H5.on (by omega)
theorem step_text (h:PSx Tryz.prog w B col pb ob cap len s st i fv gb cs gn) (hl:len=st.fs.length) (hI:Inv st i) (hi:i<s.size) (hs:s.size≤100000000) (m:Int) (hm:w.cell? ⟨0,0,none⟩=some (.int .i64 m)) (hB:0<B) (n92:s.data.toList.getD i 0≠92) (n96:s.data.toList.getD i 0≠96) (n93:s.data.toList.getD i 0≠93) (n42:s.data.toList.getD i 0≠42) (n95:s.data.toList.getD i 0≠95) (m60:[60,60].isPrefixOf (s.data.toList.drop i)=false) (m40:[40,40].isPrefixOf (s.data.toList.drop i)=false) (m94:[94,91].isPrefixOf (s.data.toList.drop i)=false) :
  Calls Tryz.prog 164 #[.pointer (some ⟨pb,0,none⟩),.int .i64 (i:Int)] w fun e w'=>e=.returned (.int .i64 ((i+1:Nat):Int))∧StepPost B pb s gb w col (st.write [s.data.toList.getD i 0]) (i+1) w':=by
 have h17:=hI.2.2.2;have h1:=hI.2.2.1;have c0:=h.hp.cell 0;obtain⟨f,r,hfs⟩:∃f r,st.fs=f::r:=by
  match hq:st.fs,hI.2.2.1 with
  | f::r,_=>exact⟨f,r,rfl⟩
  | [],hq2=>simp at hq2
 have hftx:f.row.tx.length≤100000000:=by
  have:=hI.1
  rw[hfs,wtFs_cons] at this;unfold wtF wtR at this;omega
 have hflt:st.faults.length≤10000000000:=by have:=hI.2.1;omega
 have HLR:Hid (len=r.length+1):=by unfold Hid;rw[hl,hfs];rfl
 have hr17:r.length≤17:=by have:=HLR.out;omega
 have rz:(s.extract i s.size).size=s.size-i:=by simp
 have rz1:0<(s.extract i s.size).size:=by omega
 have rz2:(s.extract i s.size).size≤100000000:=by omega
 have G0:Hid ((s.extract i s.size)[0]'rz1=s.data.toList.getD i 0):=rest_get (s:=s) (i:=i) 0 rz1;have RL:=Lib.hid (rest_list s i);have q92:((((s.extract i s.size)[0]'rz1).toNat:Int)==92)=false:=by
  rw[G0.out];exact neB (d:=92) rfl n92
 have q96:((((s.extract i s.size)[0]'rz1).toNat:Int)==96)=false:=by
  rw[G0.out];exact neB (d:=96) rfl n96
 have q93:((((s.extract i s.size)[0]'rz1).toNat:Int)==93)=false:=by
  rw[G0.out];exact neB (d:=93) rfl n93
 have q42:((((s.extract i s.size)[0]'rz1).toNat:Int)==42)=false:=by
  rw[G0.out];exact neB (d:=42) rfl n42
 have q95:((((s.extract i s.size)[0]'rz1).toNat:Int)==95)=false:=by
  rw[G0.out];exact neB (d:=95) rfl n95
 have p60:∀w,Calls Tryz.prog 77 #[.string (s.extract i s.size),.string ⟨#[60,60]⟩] w fun e w'=>e=.returned (.bool false)∧w'=w:=fun w=>by
  have:=Tryz.strings_HasPrefix (s.extract i s.size) ⟨#[60,60]⟩ w
  rw[pre_hasPrefix,RL.out,show (ByteArray.mk #[60,60]).data.toList=[60,60] from rfl,m60] at this;exact this
 have p40:∀w,Calls Tryz.prog 77 #[.string (s.extract i s.size),.string ⟨#[40,40]⟩] w fun e w'=>e=.returned (.bool false)∧w'=w:=fun w=>by
  have:=Tryz.strings_HasPrefix (s.extract i s.size) ⟨#[40,40]⟩ w
  rw[pre_hasPrefix,RL.out,show (ByteArray.mk #[40,40]).data.toList=[40,40] from rfl,m40] at this;exact this
 have p94:∀w,Calls Tryz.prog 77 #[.string (s.extract i s.size),.string ⟨#[94,91]⟩] w fun e w'=>e=.returned (.bool false)∧w'=w:=fun w=>by
  have:=Tryz.strings_HasPrefix (s.extract i s.size) ⟨#[94,91]⟩ w
  rw[pre_hasPrefix,RL.out,show (ByteArray.mk #[94,91]).data.toList=[94,91] from rfl,m94] at this;exact this
 have e1:IntKind.i64.wrap ((i:Int)+1)=((i+1:Nat):Int):=by rw[show (i:Int)+1=((i+1:Nat):Int) by omega];exact IntWalk.i64_in _ (by omega)
 have RX:Hid (((s.extract i s.size).extract 0 1).data.toList=[s.data.toList.getD i 0]):=by
  unfold Hid;rw[cut_list,rest_list,List.drop_drop];have hlt:i<s.data.toList.length:=by simpa using hi
  rw[Nat.add_zero,List.drop_eq_getElem_cons hlt,List.getD_eq_getElem?_getD,List.getElem?_eq_getElem hlt];rfl
 have C0:=Lib.hid c0;have H:=Lib.hid h;have HPD:=Lib.hid (fun k=>PSx.drewN h k);have HFS:=Lib.hid hfs;have HL:=Lib.hid hl;have HI:=Lib.hid hI;have rz4:(1:Int)≤((s.extract i s.size).size:Int):=by omega
 clear n92 n96 n93 n42 n95 m60 m40 m94 hm hI h1 h17 h hl hfs G0 RL;obtain⟨R,hR⟩:∃R,s.extract i s.size=R:=⟨_,rfl⟩;rw[hR] at rz;have RZ:=Lib.hid rz;clear rz;simp only[hR] at rz1 rz2 q92 q96 q93 q42 q95 p60 p40 p94 RX rz4
 go_enter Tryz.func164,Tryz.ntmps164
 go_wp2_with (first
  | (go_at_call 77;(with_reducible refine (p60 _).mono ?_);rintro e w' ⟨rfl,rfl⟩)
  | (go_at_call 77;(with_reducible refine (p40 _).mono ?_);rintro e w' ⟨rfl,rfl⟩)
  | (go_at_call 77;(with_reducible refine (p94 _).mono ?_);rintro e w' ⟨rfl,rfl⟩)
  | fail)
 refine wp_region_held_drew (S:=(fun w'=>w'.cell? ⟨pb,0,none⟩=some (.string s))) (by kernel_rfl) ?_ (fun hHeld0=>?_)
 ·(try dsimp only)
  first|exact C0.out|exact z0
 refine tkHo 0 ?_;refine tkHo 4 ?_;refine tkHo 5 ?_;refine rdyH [1] ?_;refine AllReadyH.cons rfl (fun K hK=>?_) AllReadyH.nil;go_simp;refine (top_any (n:=r.length) (by rw[←HLR.out];exact HPD.out _) (by omega)).mono ?_;rintro e w3 ⟨rfl,kk,rfl⟩
 go_wp2_with fail
 refine hK.out _ _ ?_ (fun hHeld1=>?_)
 ·(try dsimp only)
  first|exact C0.out|exact z0
 clear hK K hHeld0
 (try go_frame)
 refine tkHo 2 ?_;refine tkHo 3 ?_;refine rdyH [6] ?_;refine AllReadyH.cons rfl (fun K hK=>?_) AllReadyH.nil;go_simp;refine (writeTop_any (HPD.out _) HFS.out (R.extract 0 1) (by simp;omega) (by omega)).mono ?_;rintro e w4 ⟨rfl,col4,cs4,h4,st4⟩;have st5:=st4.undrew;have H4:=Lib.hid h4;have ST4:=Lib.hid st5;have z0:=h4.hp.cell 0;clear h4 st4 st5
 go_wp2_with fail
 refine hK.out _ _ ?_ (fun hHeld2=>?_)
 ·(try dsimp only)
  first|exact C0.out|exact z0
 clear hK K hHeld1
 (try go_frame)
 refine wpAnyH_done (by kernel_rfl) ?_ _;go_wp2
 go_ret
 refine⟨rfl,col4,ob,cap,fv,cs4,gn,?_,ST4.out⟩;have e:(R.extract 0 1).data.toList=[s.data.toList.getD i 0]:=RX.out;have H5:=H4.out;rw[e] at H5;rw[writeLen,←HL.out];exact H5.on (by omega)
theorem step_any (h:PSx Tryz.prog w B col pb ob cap len s st i fv gb cs gn) (hl:len=st.fs.length) (hI:Inv st i) (hi:i<s.size) (hs:s.size≤100000000) (m:Int) (hm:w.cell? ⟨0,0,none⟩=some (.int .i64 m)) (hB:0<B) :
  Calls Tryz.prog 164 #[.pointer (some ⟨pb,0,none⟩),.int .i64 (i:Int)] w fun e w'=>e=.returned (.int .i64 (((st.step s.data.toList i).2:Nat):Int))∧StepPost B pb s gb w col (st.step s.data.toList i).1 (st.step s.data.toList i).2 w':=by
 have hlen:s.data.toList.length=s.size:=by simp
 have hil:i<s.data.toList.length:=by omega
 have head:∀{a b:UInt8},[a,b].isPrefixOf (s.data.toList.drop i)=true→s.data.toList.getD i 0=a:=fun {a b} hp=>by
  rw[drop_cons hil,List.isPrefixOf] at hp;simp only[Bool.and_eq_true,beq_iff_eq] at hp;exact hp.1.symm
 unfold Pst.step;rw[hlen];split
 ·rename_i hc;exact step_esc h hl hI hi hs m hm hB hc.1 hc.2.1 hc.2.2
 rename_i k92;split
 ·rename_i hc;exact step_code h hl hI hi hs m hm hB hc
 rename_i k96;split
 ·rename_i hp;exact step_ref h hl hI hi hs m hm hB (head hp) hp
 rename_i k60;split
 ·rename_i hp;exact step_term h hl hI hi hs m hm hB (head hp) hp
 rename_i k40;split
 ·rename_i hp;cases hr:st.room with
  | true=>exact step_note h hl hI hi hs m hm hB (head hp) hp hr
  | false=>exact step_full h hl hI hi hs m hm hB (head hp) hp hr
 rename_i k94;split
 ·rename_i hc;exact step_shut h hl hI hi hs m hm hB hc.1 hc.2
 rename_i k93;split
 ·rename_i hc;exact step_starW h hl hI hi hs m hm hB hc
 rename_i k42;split
 ·rename_i hc;exact step_barW h hl hI hi hs m hm hB hc
 rename_i k95;simp only[Bool.not_eq_true] at k60 k40 k94
 by_cases e92:s.data.toList.getD i 0=92
 ·by_cases en:i+1<s.size
  ·exact step_back h hl hI hi hs m hm hB e92 en (by
    cases he:escB (s.data.toList.getD (i+1) 0) with
    | false=>rfl
    | true=>exact absurd ⟨e92,en,he⟩ k92)
  ·exact step_short h hl hI hi hs m hm hB e92 en
 ·by_cases e93:s.data.toList.getD i 0=93
  ·exact step_last h hl hI hi hs m hm hB e93 (by
    by_cases e0:0<lastK 6 st.fs
    ·exact absurd ⟨e93,e0⟩ k93
    ·omega)
  ·exact step_text h hl hI hi hs m hm hB e92 k96 e93 k42 k95 k60 k40 k94
end
end Go.Proofs.YtkkebmciiiajeaaGreatDoor
namespace Go.Proofs
open Go.Shelf
def Tryz.sortTold_ren:Go.Shelf.Ren:=⟨fun|6=>168|15=>112|14=>212|28=>162|29=>163|20=>228|21=>229|22=>230|23=>231|24=>232|25=>233|26=>234|27=>235|46=>240|47=>194|48=>195|49=>241|50=>242|57=>245|n=>n,fun|22=>235|24=>248|25=>250|3=>3|39=>186|0=>0|53=>230|55=>232|4=>4|46=>225|45=>224|50=>176|5=>5|9=>9|66=>262|70=>266|76=>283|77=>284|n=>n,fun|n=>n⟩
theorem Tryz.sortTold:Go.Proofs.SlLaysF0.n6 Tryz.prog Tryz.sortTold_ren:={
 mixed:=by kernel_rfl
 f6:=⟨Tryz.f168.name,by decide,Tryz.func168.trans (congrArg some (by kernel_rfl))⟩
 f14:=⟨Tryz.f212.name,by decide,Tryz.func212.trans (congrArg some (by kernel_rfl))⟩
 f15:=Tryz.func112.trans (congrArg some (by kernel_rfl))
 f20:=⟨Tryz.f228.name,by decide,Tryz.func228.trans (congrArg some (by kernel_rfl))⟩
 f21:=⟨Tryz.f229.name,by decide,Tryz.func229.trans (congrArg some (by kernel_rfl))⟩
 f22:=⟨Tryz.f230.name,by decide,Tryz.func230.trans (congrArg some (by kernel_rfl))⟩
 f23:=⟨Tryz.f231.name,by decide,Tryz.func231.trans (congrArg some (by kernel_rfl))⟩
 f24:=⟨Tryz.f232.name,by decide,Tryz.func232.trans (congrArg some (by kernel_rfl))⟩
 f25:=⟨Tryz.f233.name,by decide,Tryz.func233.trans (congrArg some (by kernel_rfl))⟩
 f26:=⟨Tryz.f234.name,by decide,Tryz.func234.trans (congrArg some (by kernel_rfl))⟩
 f27:=⟨Tryz.f235.name,by decide,Tryz.func235.trans (congrArg some (by kernel_rfl))⟩
 f28:=Tryz.func162.trans (congrArg some (by kernel_rfl))
 f29:=Tryz.func163.trans (congrArg some (by kernel_rfl))
 f46:=⟨Tryz.f240.name,by decide,Tryz.func240.trans (congrArg some (by kernel_rfl))⟩
 f47:=Tryz.func194.trans (congrArg some (by kernel_rfl))
 f48:=Tryz.func195.trans (congrArg some (by kernel_rfl))
 f49:=⟨Tryz.f241.name,by decide,Tryz.func241.trans (congrArg some (by kernel_rfl))⟩
 f50:=⟨Tryz.f242.name,by decide,Tryz.func242.trans (congrArg some (by kernel_rfl))⟩
 f57:=⟨Tryz.f245.name,by decide,Tryz.func245.trans (congrArg some (by kernel_rfl))⟩
 t0:=Tryz.underlying0
 a0:=Tryz.isAgg0
 z0:=Tryz.sizeOf0
 v0:=Tryz.zeroValue0
 t3:=Tryz.underlying3
 a3:=Tryz.isAgg3
 z3:=Tryz.sizeOf3
 v3:=Tryz.zeroValue3
 t4:=Tryz.underlying4
 a4:=Tryz.isAgg4
 z4:=Tryz.sizeOf4
 v4:=Tryz.zeroValue4
 t5:=Tryz.underlying5
 a5:=Tryz.isAgg5
 z5:=Tryz.sizeOf5
 v5:=Tryz.zeroValue5
 t9:=Tryz.underlying9
 a9:=Tryz.isAgg9
 z9:=Tryz.sizeOf9
 v9:=Tryz.zeroValue9
 t22:=Tryz.underlying235
 a22:=Tryz.isAgg235
 z22:=Tryz.sizeOf235
 v22:=Tryz.zeroValue235
 t25:=Tryz.underlying250
 a25:=Tryz.isAgg250
 z25:=Tryz.sizeOf250
 v25:=Tryz.zeroValue250
 t39:=Tryz.underlying186
 a39:=Tryz.isAgg186
 z39:=Tryz.sizeOf186
 v39:=Tryz.zeroValue186
 t45:=Tryz.underlying224
 a45:=Tryz.isAgg224
 z45:=Tryz.sizeOf224
 v45:=Tryz.zeroValue224
 t46:=Tryz.underlying225
 a46:=Tryz.isAgg225
 z46:=Tryz.sizeOf225
 v46:=Tryz.zeroValue225
 t50:=Tryz.underlying176
 a50:=Tryz.isAgg176
 z50:=Tryz.sizeOf176
 v50:=Tryz.zeroValue176
 t53:=Tryz.underlying230
 a53:=Tryz.isAgg230
 z53:=Tryz.sizeOf230
 v53:=Tryz.zeroValue230
 t55:=Tryz.underlying232
 a55:=Tryz.isAgg232
 z55:=Tryz.sizeOf232
 v55:=Tryz.zeroValue232
 t66:=Tryz.underlying262
 a66:=Tryz.isAgg262
 z66:=Tryz.sizeOf262
 v66:=Tryz.zeroValue262
 t70:=Tryz.underlying266
 a70:=Tryz.isAgg266
 z70:=Tryz.sizeOf266
 v70:=Tryz.zeroValue266
 t76:=Tryz.underlying283
 a76:=Tryz.isAgg283
 z76:=Tryz.sizeOf283
 v76:=Tryz.zeroValue283
 t77:=Tryz.underlying284
 a77:=Tryz.isAgg284
 z77:=Tryz.sizeOf284
 v77:=Tryz.zeroValue284 }
end Go.Proofs
namespace Go.Bd
def keys (st:Pst):List Nat:=st.faults.map (·.1)++st.fs.dropLast.map (·.at')
structure Dst (st:Pst) (i:Nat):Prop where
 nd:(keys st).Nodup
 lt:∀k∈keys st,k<i
theorem keys_top (st:Pst) (g:Rw→Rw):keys (st.top g)=keys st:=by
 obtain⟨fs,fa⟩:=st;cases fs with
 | nil=>rfl
 | cons f r=>cases r<;>rfl
theorem Dst.first:Dst Pst.first 0:=⟨by simp[keys,Pst.first],by simp[keys,Pst.first]⟩
theorem Dst.top {st:Pst}{i j:Nat} (h:Dst st i) (hj:i≤j) (g:Rw→Rw):Dst (st.top g) j :=
 ⟨by rw[keys_top];exact h.nd,fun k hk=>by rw[keys_top] at hk;have:=h.lt k hk;omega⟩
theorem Dst.write {st:Pst}{i j:Nat} (h:Dst st i) (hj:i≤j) (s:Bs):Dst (st.write s) j:=h.top hj _
theorem Dst.of_perm {a b:Pst}{i j:Nat} (h:Dst a i) (hj:i≤j) (hp:List.Perm (keys a) (keys b)):Dst b j :=
 ⟨hp.nodup_iff.1 h.nd,fun k hk=>by have:=h.lt k (hp.mem_iff.2 hk);omega⟩
theorem Dst.of_new {a b:Pst}{i j:Nat} (h:Dst a i) (hj:i<j) (hp:List.Perm (keys b) (i::keys a)):Dst b j :=
 ⟨hp.nodup_iff.2 (List.nodup_cons.2 ⟨fun hm=>by have:=h.lt i hm;omega,h.nd⟩),fun k hk=>by
  rcases List.mem_cons.1 (hp.mem_iff.1 hk) with rfl|hk
  ·exact hj
  ·have:=h.lt k hk;omega⟩
theorem keys_tell (st:Pst) (a f:Nat):List.Perm (keys (st.tell a f)) (a::keys st):=by
 simp only[keys,Pst.tell,List.map_append,List.map_cons,List.map_nil,List.append_assoc,List.cons_append,List.nil_append];exact List.perm_middle
theorem Dst.tell {st:Pst}{i j:Nat} (h:Dst st i) (hj:i<j) (f:Nat):Dst (st.tell i f) j:=h.of_new hj (keys_tell st i f)
theorem keys_drop1 {st:Pst} (h2:2≤st.fs.length):List.Perm (keys st) (keys st.drop1):=by
 obtain⟨fs,fa⟩:=st
 match fs,h2 with
 | f::g::r,_ =>
  have e:((onTop (spill f) (g::r)).dropLast).map (·.at')=((g::r).dropLast).map (·.at'):=by cases r<;>rfl
  simp only[keys,Pst.drop1,e,List.map_append,List.map_cons,List.map_nil,List.append_assoc,List.cons_append,List.nil_append,List.dropLast_cons_cons];exact List.Perm.refl _
theorem keys_dropN:∀(n:Nat){st:Pst},n+1≤st.fs.length→List.Perm (keys st) (keys (st.dropN n))
 | 0,_,_=>List.Perm.refl _
 | n+1,st,h=>by
  have h1:=drop1_length (st:=st) (by omega);exact (keys_drop1 (by omega)).trans (keys_dropN n (by omega))
theorem keys_drop {st:Pst} (n:Nat) (h:1≤st.fs.length):List.Perm (keys st) (keys (st.drop n)):=keys_dropN _ (by omega)
theorem keys_shut (st:Pst) (h2:2≤st.fs.length):∃k,List.Perm (keys st) (k::keys st.shut):=by
 obtain⟨fs,fa⟩:=st
 match fs,h2 with
 | f::g::r,_ =>
  have e:∀q,((onTop q (g::r)).dropLast).map (·.at')=((g::r).dropLast).map (·.at'):=fun q=>by cases r<;>rfl
  refine⟨f.at',?_⟩;simp only[keys,Pst.shut,e,List.map_cons,List.dropLast_cons_cons];exact List.perm_middle
theorem Dst.fin {st:Pst}{i j n:Nat} (h:Dst st i) (hI:Inv st i) (hj:i≤j) (h0:0<n) (hn:n<st.fs.length):Dst (st.fin n) j:=by
 have h1:=h.of_perm (Nat.le_refl _) (keys_drop n (by omega));obtain⟨k,hk⟩:=keys_shut (st.drop n) (by have:=(hI.drop hn).2;omega);unfold Pst.fin;have hnd:=hk.nodup_iff.1 h1.nd;refine⟨(List.nodup_cons.1 hnd).2,fun q hq=>?_⟩;have:=h1.lt q (hk.mem_iff.2 (List.mem_cons_of_mem _ hq))
 omega
theorem Dst.begin {st:Pst}{i j:Nat} (h:Dst st i) (h1:1≤st.fs.length) (hj:i<j) (k:Nat) (sign:Bs):Dst (st.begin k i sign) j:=by
 refine h.of_new hj ?_;obtain⟨fs,fa⟩:=st
 match fs,h1 with
 | f::r,_ =>
  simp only[keys,Pst.begin,List.dropLast_cons_cons,List.map_cons];exact List.perm_middle
theorem Dst.between {st:Pst}{s a b:Bs}{i:Nat}{asf:Bs→Sp ⊕ Nat} (h:Dst st i) (ha:1≤a.length) (hi:i+a.length≤s.length):Dst (st.between s i a b asf).1 (st.between s i a b asf).2:=by
 unfold Pst.between;split
 ·exact (h.write (Nat.le_refl i) a).tell (by simp only;omega) _
 ·rename_i n hn;obtain⟨h1,h2⟩:=nextAt_some hi hn;split
  ·exact (h.write (Nat.le_refl i) _).tell (by simp only;omega) _
  ·exact h.top (by simp only;omega) _
theorem Dst.mark {st:Pst}{s:Bs}{i k:Nat} (h:Dst st i) (hI:Inv st i):Dst (st.mark s i k) (i+1):=by
 unfold Pst.mark;split
 ·rename_i hc
  rcases lastK_lt k st.fs with h0|h0
  ·omega
  ·exact h.fin hI (by omega) hc.1 h0
 ·split
  ·exact h.write (by omega) _
  ·split
   ·exact (h.write (Nat.le_refl i) _).tell (by omega) _
   ·exact h.begin hI.2.2.1 (by omega) _ _
theorem Dst.step {st:Pst}{s:Bs}{i:Nat} (h:Dst st i) (hI:Inv st i) (hi:i<s.length):Dst (st.step s i).1 (st.step s i).2:=by
 unfold Pst.step;split
 ·exact h.write (by simp only;omega) _
 split
 ·exact h.between (by simp) (by simp;omega)
 split
 ·rename_i hp;exact h.between (by simp) (prefix_two hp)
 split
 ·rename_i hp;exact h.between (by simp) (prefix_two hp)
 split
 ·simp only;split
  ·exact h.begin hI.2.2.1 (by omega) _ _
  ·exact (h.write (Nat.le_refl i) _).tell (by omega) _
 split
 ·rename_i hc
  rcases lastK_lt 6 st.fs with h0|h0
  ·omega
  ·exact h.fin hI (by simp only;omega) hc.2 h0
 split
 ·exact h.mark hI
 split
 ·exact h.mark hI
 ·exact h.write (by simp only;omega) _
theorem Dst.run {s:Bs}:∀(n i:Nat) (st:Pst),Inv st i→Dst st i→∃j,Dst (runP s n i st) j
 | 0,i,st,_,h=>⟨i,h⟩
 | n+1,i,st,hI,h=>by
  rw[runP];split
  ·rename_i hlt;obtain⟨h3,h4,h5⟩:=hI.step hlt;exact Dst.run n _ _ h3 (h.step hI hlt)
  ·exact⟨i,h⟩
theorem faults_nodup (s:Bs):((faultsAt s).map (·.1)).Nodup:=by
 obtain⟨j,hj⟩:=Dst.run (s:=s) s.length 0 Pst.first Inv.first Dst.first;have hI:=Inv.run (s:=s) s.length 0 Pst.first Inv.first (Nat.zero_le _) (by omega);have h:=hj.of_perm (Nat.le_refl _) (keys_drop 0 hI.2.2.1);exact (List.nodup_append.1 h.nd).1
def insF (p:Nat×Nat):List (Nat×Nat)→List (Nat×Nat)
 | []=>[p]
 | q::l=>if p.1≤q.1 then p::q::l else q::insF p l
def sortF:List (Nat×Nat)→List (Nat×Nat)
 | []=>[]
 | p::l=>insF p (sortF l)
theorem insF_perm (p:Nat×Nat):∀l,List.Perm (insF p l) (p::l)
 | []=>List.Perm.refl _
 | q::l=>by
  unfold insF;split
  ·exact List.Perm.refl _
  ·exact ((insF_perm p l).cons q).trans (List.Perm.swap _ _ _)
theorem sortF_perm:∀l,List.Perm (sortF l) l
 | []=>List.Perm.refl _
 | p::l=>(insF_perm p _).trans ((sortF_perm l).cons p)
theorem insF_sorted (p:Nat×Nat):∀l:List (Nat×Nat),l.Pairwise (fun a b=>a.1≤b.1)→(insF p l).Pairwise (fun a b=>a.1≤b.1)
 | [],_=>by simp[insF]
 | q::l,h=>by
  unfold insF;obtain⟨h1,h2⟩:=List.pairwise_cons.1 h;split
  ·rename_i hc;refine List.pairwise_cons.2 ⟨fun x hx=>?_,h⟩
   rcases List.mem_cons.1 hx with rfl|hx
   ·exact hc
   ·have:=h1 x hx;omega
  ·rename_i hc;refine List.pairwise_cons.2 ⟨fun x hx=>?_,insF_sorted p l h2⟩
   rcases List.mem_cons.1 ((insF_perm p l).mem_iff.1 hx) with rfl|hx
   ·omega
   ·exact h1 x hx
theorem sortF_sorted:∀l:List (Nat×Nat),(sortF l).Pairwise (fun a b=>a.1≤b.1)
 | []=>List.Pairwise.nil
 | p::l=>insF_sorted p _ (sortF_sorted l)
theorem inj_keys:∀{b:List (Nat×Nat)},(b.map (·.1)).Nodup→∀{x y},x∈b→y∈b→x.1=y.1→x=y
 | [],_,_,_,hx,_,_=>by cases hx
 | p::b,hn,x,y,hx,hy,e=>by
  obtain⟨h1,h2⟩:=List.nodup_cons.1 hn
  rcases List.mem_cons.1 hx with rfl|hx'<;>rcases List.mem_cons.1 hy with rfl|hy'
  ·rfl
  ·exact (h1 (List.mem_map.2 ⟨y,hy',e.symm⟩)).elim
  ·exact (h1 (List.mem_map.2 ⟨x,hx',e⟩)).elim
  ·exact inj_keys h2 hx' hy' e
theorem sort_unique {a b:List (Nat×Nat)} (hp:List.Perm a b) (hn:(b.map (·.1)).Nodup) (ha:a.Pairwise (fun x y=>x.1≤y.1)) (hb:b.Pairwise (fun x y=>x.1≤y.1)):a=b:=by
 refine hp.eq_of_pairwise (le:=fun x y:Nat×Nat=>x.1≤y.1) (fun x y hx hy h1 h2=>?_) ha hb;have e:x.1=y.1:=by omega
 have hx':x∈b:=hp.mem_iff.1 hx;exact inj_keys hn hx' hy e
def faultsOf (s:Bs):List Nat:=(sortF (faultsAt s)).map (·.2)
end Go.Bd
namespace Go.Bd
open Go.RowKit Go.Sort
def encT (p:Nat×Nat):List Value:=[.int .i64 (p.1:Int),.int .i64 (p.2:Int)]
def cfT (x y:Nat×Nat):Int:=Lib.compareInt (x.1:Int) (y.1:Int)
theorem ltT (x y:Nat×Nat):Go.Proofs.ltOf cfT x y=decide (x.1<y.1):=by
 unfold Go.Proofs.ltOf cfT Lib.compareInt
 by_cases h1:x.1<y.1
 ·simp[h1]
 ·by_cases h2:y.1<x.1<;>simp[h1,h2]
theorem swoT:SWO (Go.Proofs.ltOf cfT) where
 irrefl x:=by rw[ltT];simp
 trans x y z h1 h2:=by rw[ltT] at *;simp at *;omega
 ntrans x y z h1 h2:=by rw[ltT] at *;simp at *;omega
theorem toldCells_length (l:List (Nat×Nat)):(toldCells l).length=l.length*2:=by
 induction l with
 | nil=>rfl
 | cons p l ih=>rw[show toldCells (p::l)=[.int .i64 (p.1:Int),.int .i64 (p.2:Int)]++toldCells l from rfl,List.length_append,ih];simp;omega
theorem toldCells_get:∀(l:List (Nat×Nat)) (j:Nat),j<l.length*2→(toldCells l)[j]? = (encT l[j / 2]!)[j % 2]?
 | [],j,h=>by simp at h
 | p::l,j,h=>by
  have e:toldCells (p::l)=[.int .i64 (p.1:Int),.int .i64 (p.2:Int)]++toldCells l:=rfl;rw[e]
  by_cases h2:j<2
  ·rw[List.getElem?_append_left (by simpa using h2)];obtain rfl|rfl:j=0∨j=1:=by omega
   ·rfl
   ·rfl
  ·rw[List.getElem?_append_right (by simp;omega)];have e1:j / 2=(j-2) / 2+1:=by omega
   have e2:j % 2=(j-2) % 2:=by omega
   rw[show ([.int .i64 (p.1:Int),.int .i64 (p.2:Int)]:List Value).length=2 from rfl,toldCells_get l (j-2) (by simp at h;omega),e1,e2];rfl
theorem encT_get (p:Nat×Nat) (j:Nat) (h:j<2):(encT p)[j]? = some (encT p)[j]!:=by
 obtain rfl|rfl:j=0∨j=1:=by omega
 ·rfl
 ·rfl
section
variable {w w':World} {B g n cap:Nat} {cur:Array Value} {l:List (Nat×Nat)}
theorem told_holdsK (hh:w.heap[g]? = some (.cells cur tT (0,0))) (ht:cur.toList.take (l.length*2)=toldCells l) (hs:l.length*2≤cur.size):HoldsK encT 2 w g 0 l.toArray:=by
 intro j hj;rw[size_flatK] at hj;have hj2:j<l.length*2:=by simpa using hj
 rw[get_flatK _ _ _ _ hj,Nat.zero_add];have h1:cur[j]? = some (encT l.toArray[j / 2]!)[j % 2]!:=by
  rw[←encT_get _ _ (by omega),show l.toArray[j / 2]! = l[j / 2]! by simp,←toldCells_get l j hj2,←ht,List.getElem?_take_of_lt hj2,Array.getElem?_toList]
 exact⟨(Holds.cell hh j).trans h1,Holds.free hh j⟩
theorem sortWorld_told (hh:w.heap[g]? = some (.cells cur tT (0,0))) (hs:l.length*2≤cur.size) (m:Nat) (d':List (Nat×Nat)) (hd:d'.length=l.length) (os:Array Obj) :
  Chg w (Go.Proofs.sortWorldK encT 2 w g 0 m d'.toArray os) (·=g)∧∃cur',(Go.Proofs.sortWorldK encT 2 w g 0 m d'.toArray os).heap[g]? = some (.cells cur' tT (0,0))∧cur'.size=cur.size∧cur'.toList.take (l.length*2)=toldCells d':=by
 have hlt:g<w.heap.size:=(Array.getElem?_eq_some_iff.1 hh).1;have hsz:(w.heap.modify g (onCells (putCells id 0 (flatK encT 2 d'.toArray)))).size=w.heap.size:=Array.size_modify;refine⟨⟨rfl,rfl,rfl,?_,fun k hk hg=>?_⟩,putCells id 0 (flatK encT 2 d'.toArray) cur,?_,by simp[putCells],?_⟩
 ·show w.heap.size≤(w.heap.modify g _++os).size
  rw[Array.size_append,Array.size_modify];omega
 ·show (w.heap.modify g _++os)[k]? = _
  rw[Array.getElem?_append_left (by rw[Array.size_modify];exact hk),Array.getElem?_modify,if_neg (fun e=>hg e.symm)]
 ·show (w.heap.modify g _++os)[g]? = _
  rw[Array.getElem?_append_left (by rw[Array.size_modify];exact hlt),Array.getElem?_modify,if_pos rfl,hh];rfl
 ·apply List.ext_getElem?
  intro j
  by_cases hj:j<l.length*2
  ·rw[List.getElem?_take_of_lt hj,Array.getElem?_toList,toldCells_get d' j (by omega)];have hjc:j<cur.size:=by omega
   have hjf:j<(flatK encT 2 d'.toArray).size:=by rw[size_flatK];simp;omega
   simp only[putCells,Array.getElem?_mapIdx,Array.getElem?_eq_getElem hjc,Option.map_some,Nat.zero_le,Nat.zero_add,true_and,if_pos hjf,Nat.sub_zero,id];rw[get_flatK _ _ _ _ (by simp;omega),encT_get _ _ (by omega)];simp
  ·rw[List.getElem?_take_eq_none (by omega),List.getElem?_eq_none (by rw[toldCells_length];omega)]
end
theorem perm_told {l d:List (Nat×Nat)} (hn:(l.map (·.1)).Nodup) (hp:PermIn 0 l.toArray.size l.toArray d.toArray) (hs:SortedIn (Go.Proofs.ltOf cfT) 0 l.toArray.size d.toArray):d=sortF l:=by
 obtain⟨h1,_,h3⟩:=hp;have hlen:d.length=l.length:=by simpa using h1
 have e1:(d.toArray.extract 0 l.toArray.size).toList=d:=by simp[←hlen]
 have e2:(l.toArray.extract 0 l.toArray.size).toList=l:=by simp
 rw[e1,e2] at h3;refine sort_unique (h3.trans (sortF_perm l).symm) ?_ ?_ (sortF_sorted l)
 ·exact ((sortF_perm l).map (·.1)).nodup_iff.2 hn
 ·rw[List.pairwise_iff_getElem];intro i j hi hj hij;have:=hs i j (Nat.zero_le _) hij (by simp;omega)
  rw[ltT,decide_eq_false_iff_not] at this;simp only[List.getElem!_toArray,getElem!_pos d j hj,getElem!_pos d i hi] at this;omega
end Go.Bd
namespace Go.Proofs.YtkkebmciiiajeaaGreatDoor
open Go.RowKit Go.Bd Go.Sort
theorem cmpT (x y:Nat×Nat) (W:World):Calls Tryz.prog 169 #[.agg #[.int .i64 (x.1:Int),.int .i64 (x.2:Int)],.agg #[.int .i64 (y.1:Int),.int .i64 (y.2:Int)]] W fun e w'=>e=.returned (.int .i64 (cfT x y))∧∃q os',w'=grow (W.drewN q) os':=by
 have hcon:=fun W'=>Tryz.cmp_Compare_int (x.1:Int) (y.1:Int) W'
 unfold cfT;generalize Lib.compareInt (x.1:Int) (y.1:Int)=r at hcon ⊢
 go_enter Tryz.func169,Tryz.ntmps169
 go_wp2_with (go_at_call 170;refine (hcon _).mono ?_;rintro e w' ⟨rfl,rfl⟩)
 go_ret
 exact⟨rfl,0,_,by rw[alloc_eq_grow,alloc_eq_grow,grow_grow];rfl⟩
theorem insert_none (fv:Value) (w:World):Calls Tryz.prog 228 #[.slice none 0 0,.int .i64 0,.int .i64 0,fv] w fun e w'=>e=.returned (.tuple #[])∧w=w':=by
 go_enter Tryz.func228,Tryz.ntmps228
 go_wp2
 go_loop [8] (fun i=>i=.int .i64 1) (fun _=>0)
 case atStart=>rfl
 case round =>
  obtain rfl:=hrel;go_wp2
  go_end0
  exact⟨rfl,rfl⟩
theorem pdq_none (fv:Value) (x:Int) (w:World):Calls Tryz.prog 212 #[.slice none 0 0,.int .i64 0,.int .i64 0,.int .i64 x,fv] w fun e w'=>e=.returned (.tuple #[])∧w=w':=by
 go_enter Tryz.func212,Tryz.ntmps212
 go_wp2
 go_loop [1,2] (fun a b=>a=.int .i64 0∧b=.int .i64 0) (fun _ _=>0)
 case atStart=>exact⟨rfl,rfl⟩
 case round =>
  obtain⟨rfl,rfl⟩:=hrel
  go_wp2_with (go_at_call 228;refine (insert_none _ _).mono ?_;rintro e w' ⟨rfl,rfl⟩)
  (try simp only[Exit.inBlock,Exit.then])
  refine bodyPost_ret (results_none rfl _ _ _) rfl ?_;exact⟨rfl,rfl⟩
theorem sort_none (fv:Value) (w:World):Calls Tryz.prog 168 #[.slice none 0 0,fv] w fun e w'=>e=.returned (.tuple #[])∧w=w':=by
 have cl:=fun w=>Tryz.bits_Len 0 w (by omega) (by omega)
 go_enter Tryz.func168,Tryz.ntmps168
 go_wp2_with (first
  | (go_at_call 112;refine (cl _).mono ?_;rintro e w' ⟨rfl,rfl⟩)
  | (go_at_call 212;refine (pdq_none _ _ _).mono ?_;rintro e w' ⟨rfl,rfl⟩)
  | fail)
 go_end0
 exact⟨rfl,rfl⟩
theorem sort_any {w:World}{B:Nat}{fv:Value}{l:List (Nat×Nat)} (h:w.ownsRow B tT 2 fv l.length (toldCells l)) (hn:(l.map (·.1)).Nodup) (hlen:l.length≤10000000000) :
  Calls Tryz.prog 168 #[fv,.func (.func 169) #[] #[]] w fun e w'=>e=.returned (.tuple #[])∧Chg w w' (fun b=>fv.ownBlock=some b)∧w'.ownsRow B tT 2 fv l.length (toldCells (sortF l)):=by
 rcases h.2 with ⟨rfl,h0⟩|⟨g,cap,cur,rfl,hg,hh,hc,hm,hs,ht⟩
 ·obtain rfl:l=[]:=List.eq_nil_of_length_eq_zero h0;refine (sort_none _ w).mono ?_;rintro e w' ⟨rfl,rfl⟩;exact⟨rfl,Chg.refl _ _,h⟩
 ·have eg:∀args w,(callFunc 169 args).run Tryz.prog w=.ok (.enter 169 args) w:=fun args w=>by kernel_rfl
  have hs2:l.length*2≤cur.size:=by rw[hs];exact Nat.mul_le_mul_right 2 hc
  have hcon:=AnyQ.slices_SortFunc Tryz.sortTold 2 Tryz.isAgg248 Tryz.sizeOf248 encT (fun _=>rfl) (fun x v hv=>by simp[encT] at hv;rcases hv with rfl|rfl<;>rfl) cfT swoT 169 #[] g 0 cap l.toArray w eg
   (fun _ _ _ _ x y=>cmpT x y _) (told_holdsK hh ht hs2) (Array.getElem?_eq_some_iff.1 hh).1 (by simp;omega)
  rw[show l.toArray.size=l.length by simp] at hcon;refine hcon.mono ?_;rintro e w' ⟨rfl,d',n,os,hp,hsd,rfl⟩;have hd:d'.toList=sortF l:=perm_told hn (by simpa using hp) (by simpa using hsd);obtain⟨h1,cur',h2,h3,h4⟩:=sortWorld_told hh hs2 n d'.toList (by rw[hd];exact (sortF_perm l).length_eq) os;rw[Array.toArray_toList] at h1 h2;rw[hd] at h4;refine⟨rfl,h1.mono (fun k _ e=>by subst e;rfl),?_,.inr ⟨g,cap,cur',rfl,hg,h2,hc,hm,by rw[h3,hs],h4⟩⟩;rw[toldCells_length,(sortF_perm l).length_eq]
end Go.Proofs.YtkkebmciiiajeaaGreatDoor
namespace Go.Bd
def R (s:Bs) (i:Nat) (st:Pst):Pst:=runP s s.length i st
theorem R_step {s:Bs}{i:Nat}{st:Pst} (hI:Inv st i) (hi:i<s.length):R s i st=R s (st.step s i).2 (st.step s i).1:=run_step hI hi (by omega)
theorem R_end {s:Bs}{i:Nat}{st:Pst} (h:s.length≤i):R s i st=st:=run_end st h
theorem step_code {s:Bs}{i:Nat} (st:Pst) (h:s.getD i 0=96):st.step s i=st.between s i [96] [96] codeS:=by
 unfold Pst.step;rw[if_neg (by rw[h];simp),if_pos h]
theorem step_note {s:Bs}{i:Nat} (st:Pst) (hi:i<s.length) (h:s.getD i 0=94) (hp:[94,91].isPrefixOf (s.drop i)=true) (hr:st.room=true):st.step s i=(st.begin 6 i [94,91],i+2):=by
 unfold Pst.step;rw[if_neg (by rw[h];simp),if_neg (by rw[h];decide),if_neg (by rw[pre_ne hi (by rw[h];decide)];simp),if_neg (by rw[pre_ne hi (by rw[h];decide)];simp),if_pos hp,if_pos hr]
theorem step_shut {s:Bs}{i:Nat} (st:Pst) (hi:i<s.length) (h:s.getD i 0=93) (hl:0<lastK 6 st.fs):st.step s i=(st.fin (lastK 6 st.fs),i+1):=by
 unfold Pst.step;rw[if_neg (by rw[h];simp),if_neg (by rw[h];decide),if_neg (by rw[pre_ne hi (by rw[h];decide)];simp),if_neg (by rw[pre_ne hi (by rw[h];decide)];simp),if_neg (by rw[pre_ne hi (by rw[h];decide)];simp),if_pos ⟨h,hl⟩]
theorem endP_eq (s:Bs):endP s=(R s 0 Pst.first).drop 0:=rfl
end Go.Bd
namespace Go.Bd
open Go.RowKit
def frame0:Array Value:=#[.slice none 0 0,.slice none 0 0,.int .u8 0,.string ⟨#[]⟩,.int .i64 0]
def colFirst (B:Nat) (b:Nat):Nat:=if b<B then 5 else if b=B then 1 else if b=B+1 then 2 else if b=B+2 then 0 else 9
def firstW (w:World) (s:ByteArray):World:=((w.alloc (.cells frame0 tF)).alloc (.map #[] 0)).alloc (.cells #[.string s,.slice (some ⟨w.heap.size,0,none⟩) 1 1,.slice none 0 0,.map (some (w.heap.size+1))] tP)
theorem psFirst (P:Program) (w:World) (s:ByteArray):PSx P (firstW w s) w.heap.size (colFirst w.heap.size) (w.heap.size+1+1) w.heap.size 1 1 s Pst.first 0 (.slice none 0 0) (w.heap.size+1) frame0 []:=by
 have hz:(firstW w s).heap.size=w.heap.size+3:=by simp[firstW]
 have hp:Holds (firstW w s) (w.heap.size+1+1) tP #[.string s,.slice (some ⟨w.heap.size,0,none⟩) 1 1,.slice none 0 0,.map (some (w.heap.size+1))]:=by
  have:=Holds.new ((w.alloc (.cells frame0 tF)).alloc (.map #[] 0)) tP #[.string s,.slice (some ⟨w.heap.size,0,none⟩) 1 1,.slice none 0 0,.map (some (w.heap.size+1))]
  simpa [firstW] using this
 have ho:Holds (firstW w s) w.heap.size tF frame0:=((Holds.new w tF frame0).alloc _).alloc _;refine⟨by omega,hp,by unfold colFirst;rw[if_neg (by omega),if_neg (by omega),if_neg (by omega),if_pos (by omega)],by omega,ho,by simp[colFirst],rfl,by omega,by simp[Pst.first],by unfold maxLen;omega,?_,World.ownsRow_nil _ _ _ _,(fun b hb=>by cases hb),by omega,?_,by simp[colFirst];try omega,(fun g hg=>by cases hg),by simp,fun b hb=>?_,fun b hb=>?_⟩
 ·intro k f hf;have hk:k=0:=by
   have:=(List.getElem?_eq_some_iff.1 hf).1
   simp[Pst.first] at this;omega
  subst hk;simp only[Pst.first,List.reverse_singleton,List.getElem?_cons_zero,Option.some.injEq] at hf;subst hf;exact⟨.slice none 0 0,.slice none 0 0,⟨rfl,rfl,rfl,rfl,rfl,SpanRow.nil _ _ _ _,World.ownsRow_nil _ _ _ _,(fun b hb=>by cases hb),(fun b hb=>by cases hb)⟩⟩
 ·have h1:=World.ownsMap_made (H:=Unit) (w.alloc (.cells frame0 tF)) P 9 unitElem;have h2:(firstW w s).ownsMap (H:=Unit) P 9 unitElem (w.heap.size+1) 0 (.map []):=by
   have h3:=h1.kept (w':=firstW w s) (row:=none) ⟨rfl,rfl,rfl,by simp[firstW],fun k hk _=>Below.heap_alloc _ _ k hk⟩ (by simp);simpa using h3
  exact h2
 ·rw[hz] at hb;unfold colFirst;rw[if_neg (by omega),if_neg (by omega),if_neg (by omega),if_neg (by omega)]
 ·unfold colFirst;rw[if_pos hb]
def FaultRow (w:World) (B:Nat) (v:Value) (l:List Nat):Prop:=w.ownsRow B 49 1 v l.length (l.map fun (f:Nat)=>Value.int .i64 (f:Int))
end Go.Bd
namespace Go.Proofs.YtkkebmciiiajeaaGreatDoor
open Go.RowKit Go.Bd
theorem fault_info:(Tryz.prog.info? 49).map (fun i=>(i.zero,i.size,i.bytes))=some (some (.int .i64 0),1,8):=by kernel_rfl
theorem make_frame (w:World):(Instr.makeSlice 234 (.int .i64 1) (.int .i64 1)).run Tryz.prog w=.ok (.slice (some ⟨w.heap.size,0,none⟩) 1 1) (w.alloc (.cells frame0 245)):=by
 obtain⟨i0,hi,hz0,hz1,hz2⟩:=info_parts frame_info;have h:=run_make (P:=Tryz.prog) w 234 245 i0 _ Tryz.underlying234 hi hz0 .i64 .i64 1 1 (by omega) (Int.le_refl _) (by rw[hz2];decide) (by decide);rw[hz1] at h;have e:madeCells (Value.agg #[.slice none 0 0,.slice none 0 0,.int .u8 0,.string ⟨#[]⟩,.int .i64 0]).cells (Int.toNat 1*5)=frame0:=by first|rfl|kernel_rfl|decide
 rw[e] at h;exact h
theorem make_map (w:World):(Instr.makeMap 81 none).run Tryz.prog w=.ok (.map (some w.heap.size)) (w.alloc (.map #[] 0)):=by first|rfl|kernel_rfl
theorem parseSpans_fresh (s:ByteArray) (w:World) (hs:s.size≤100000000) (m:Int) (hm:w.cell? ⟨0,0,none⟩=some (.int .i64 m)) :
  Calls Tryz.prog 113 #[.string s] w fun e w'=>∃sv fv,e=.returned (.tuple #[sv,fv])∧Below w.heap.size w w'∧Forest w' (fun b=>w.heap.size≤b∧b<w'.heap.size) sv (spansOf s.data.toList)∧FaultRow w' w.heap.size fv (faultsOf s.data.toList):=by
 have hB:0<w.heap.size:=World.block_lt_of_cell? w _ hm;have mf:=make_frame w;have HF:=Lib.hid (psFirst Tryz.prog w s);have HM:=Lib.hid hm;have hls:s.data.toList.length=s.size:=by simp
 have HLS:=Lib.hid hls;clear hm hls
 go_enter Tryz.func113,Tryz.ntmps113
 go_wp2_with fail
 rw[make_map];clear mf;simp only[Result.andThen];rw[Oper.upon_value];go_wp2
 go_loopg [5] (s.size) (fun q v wr=>∃(i:Nat) (st:Pst) (col:Nat→Nat) (ob cap:Nat) (fv:Value) (cs:Array Value) (gn:List Bs),i+q=s.size∧v=.int .i64 (i:Int)∧Hid (Bd.Inv st i∧R s.data.toList i st=R s.data.toList 0 Pst.first∧PSx Tryz.prog wr w.heap.size col (w.heap.size+1+1) ob cap st.fs.length s st i fv (w.heap.size+1) cs gn∧Below w.heap.size w wr))
 case atStart =>
  refine⟨0,Pst.first,_,_,_,_,_,_,by omega,rfl,Inv.first,rfl,HF.out,?_⟩;exact (((Below.refl _ _).alloc (Nat.le_refl _) _).alloc (by simp) _).alloc (by simp;omega) _
 case round =>
  clear HF;obtain⟨i,st,col,ob,cap,fv,cs,gn,hq,rfl,HR⟩:=hrel;obtain⟨hI,hRR,hP,hb⟩:=HR.out
  by_cases hlt:i<s.size
  ·have cst:=step_any hP rfl hI hlt hs m ((hb.cell (p:=⟨0,0,none⟩) hB).trans HM.out) hB;obtain⟨h3,h4,h5⟩:=hI.step (s:=s.data.toList) (by rw[HLS.out];exact hlt);rw[HLS.out] at h5;have hRS:R s.data.toList (st.step s.data.toList i).2 (st.step s.data.toList i).1=R s.data.toList 0 Pst.first:=by rw[←R_step hI (by rw[HLS.out];exact hlt)];exact hRR
   have HRS:=Lib.hid hRS;have HI3:=Lib.hid h3;have HB:=Lib.hid hb;clear hI hRR hP hb HR h3 hRS;generalize (st.step s.data.toList i).2=j at cst h4 h5 HRS HI3;generalize (st.step s.data.toList i).1=st' at cst HRS HI3
   go_wp2_with (go_at_call 164;refine cst.mono ?_;clear cst;rintro e w' ⟨rfl,hpost⟩)
   have HPost:=Lib.hid hpost;clear hpost
   go_roundg (s.size-j)
   case measure=>omega
   case rel =>
    obtain⟨col',ob',cap',fv',cs',gn',h6,h7⟩:=HPost.out;exact⟨j,st',col',ob',cap',fv',cs',gn',by omega,rfl,HI3.out,HRS.out,h6,HB.out.trans h7.below⟩
  ·obtain rfl:i=s.size:=by omega
   have hst:st.drop 0=endP s.data.toList:=by
    rw[endP_eq,←hRR,R_end (by rw[HLS.out];exact Nat.le_refl _)]
   have hI1:=(hI.drop (n:=0) hI.2.2.1).1;have cd:=drop_any hP rfl 0 hI.2.2.1 s.size hI hs;rw[hst] at cd hI1;have hfa:(endP s.data.toList).faults=faultsAt s.data.toList:=rfl;have hnd:=faults_nodup s.data.toList;have HSO:Hid (spansOf s.data.toList=match (endP s.data.toList).fs with|f::_=>f.row.flush.sp|[]=>[]):=rfl;have HFO:Hid (faultsOf s.data.toList=(sortF (endP s.data.toList).faults).map (·.2)):=rfl;rw[←hfa] at hnd;obtain⟨f,hfs⟩:=endP_one s.data.toList;generalize endP s.data.toList=ed at cd hI1 hfs hnd HSO HFO;have hwt:wtF f≤s.size:=by
    have:=hI1.1
    rw[hfs,wtFs_cons] at this;omega
   have hsl:f.row.sp.length≤100000000∧f.row.tx.length≤100000000:=by
    have:=wtL_len f.row.sp
    unfold wtF wtR at hwt;omega
   obtain⟨hsl1,hsl2⟩:=hsl;have hfl:ed.faults.length≤100000001:=by have:=hI1.2.1;omega
   have HFS:=Lib.hid hfs;have HND:=Lib.hid hnd;have HB:=Lib.hid hb;clear hI hRR hP hb HR hst hI1 hfa hfs hwt hnd
   go_wp2_with fail
   refine cd.mono ?_;clear cd;rintro e w1 ⟨rfl,col1,fv1,cs1,h1,st1⟩;have H1:=Lib.hid h1;have HB1:=Lib.hid (HB.out.trans st1.below);clear h1 st1
   go_wp2_with fail
   refine (top_any (n:=0) H1.out (by omega)).mono ?_;rintro e w2 ⟨rfl,kk,rfl⟩;have cf:=flushTop_any (PSx.drewN H1.out kk) HFS.out (by omega) (by omega)
   go_wp2_with fail
   refine cf.mono ?_;clear cf;rintro e w3 ⟨rfl,col3,cs3,h3,st3⟩;have hfs3:(ed.top (·.flush)).fs=[{ f with row:=f.row.flush }]:=by simp[Pst.top,onTop,HFS.out]
   have HFS3:=Lib.hid hfs3;have hfa3:(ed.top (·.flush)).faults=ed.faults:=rfl;have csr:=sort_any h3.hf (by rw[hfa3];exact HND.out) (by rw[hfa3];omega);have hf3:=h3.hf;rw[hfa3] at csr hf3;have d2:=h3.hp.cell 2;have H3:=Lib.hid h3;have HB3:=Lib.hid (HB1.out.trans st3.undrew.below);clear h3 st3 hfs3 hfa3
   go_wp2_with fail
   refine csr.mono ?_;clear csr;rintro e w4 ⟨rfl,hch4,ho4⟩;have hsl4:(sortF ed.faults).length=ed.faults.length:=(sortF_perm _).length_eq;obtain⟨col4,h4,st4⟩:=H3.out.faults (fa:=sortF ed.faults) hch4 (fun b hb=>.inr hb) (hch4.holds (fun e=>by have h1:=H3.out.cf _ e;have h2:=H3.out.cp;omega) H3.out.hp) (by rw[hsl4];exact ho4) (fun b hb=>.inl hb);have e2:=h4.hp.cell 2;have H4:=Lib.hid h4;have HB4:=Lib.hid (HB3.out.trans st4.below);have HHP:=Lib.hid h4.hp;have hB4:w.heap.size≤w4.heap.size:=HB4.out.size;clear h4 st4 hch4 d2 hf3;have HSL:=Lib.hid hsl4;clear hsl4;generalize hn:ed.faults.length=n at hfl ho4 HSL;obtain⟨A,c,rfl,hle⟩:=own_slice2 ho4;have HC:Hid (∀(j:Nat) (p:Nat×Nat),(sortF ed.faults)[j]? = some p→∃g,A=some ⟨g,0,none⟩∧g<w4.heap.size∧w4.cell? ⟨g,j*2,none⟩=some (.int .i64 (p.1:Int))∧w4.cell? ⟨g,j*2+1,none⟩=some (.int .i64 (p.2:Int))):=fun j p hj=>by
    have hjl:j<n:=by have:=(List.getElem?_eq_some_iff.1 hj).1;rw[HSL.out] at this;exact this
    have hpe:(sortF ed.faults)[j]! = p:=by rw[List.getElem!_eq_getElem?_getD,hj];rfl
    rcases ho4.2 with ⟨_,h0⟩|⟨g,cap',cur,hv,hg,hh,hc,hm,hs,ht⟩
    ·omega
    ·injection hv with h1 _ _
     have get:∀q,q<2→w4.cell? ⟨g,j*2+q,none⟩=(encT p)[q]?:=fun q hq=>by
      have:=toldCells_get (sortF ed.faults) (j*2+q) (by rw[HSL.out];omega)
      rw[←ht,List.getElem?_take_of_lt (by omega),Array.getElem?_toList,show (j*2+q) / 2=j by omega,show (j*2+q) % 2=q by omega,hpe] at this;exact (Holds.cell hh _).trans this
     exact⟨g,h1,(Array.getElem?_eq_some_iff.1 hh).1,get 0 (by omega),get 1 (by omega)⟩
   have HLE:=Lib.hid hle;have HO4:=Lib.hid ho4;have HN:=Lib.hid hn;clear ho4 hle hn;go_wp2
   go_loopg [6,38] n (fun q v idx wr=>∃k:Nat,k+q=n∧idx=.int .i64 (k:Int)∧Hid (wr.ownsRow w4.heap.size 49 1 v k (((sortF ed.faults).map fun (p:Nat×Nat)=>Value.int .i64 (p.2:Int)).take k)∧Below w4.heap.size w4 wr))
   case atStart=>exact⟨0,by omega,rfl,World.ownsRow_nil _ _ _ _,Below.refl _ _⟩
   case round =>
    obtain⟨k,hk,rfl,HR⟩:=hrel;obtain⟨hown,hbl⟩:=HR.out;have hsz:=hbl.size
    by_cases hlt:k<n
    ·obtain⟨p,hp⟩:∃p,(sortF ed.faults)[k]? = some p:=⟨_,List.getElem?_eq_getElem (by rw[HSL.out];exact hlt)⟩;obtain⟨g,rfl,hg,p1,p2⟩:=HC.out k p hp
     replace p1:=(hbl.cell (p:=⟨g,k*2,none⟩) hg).trans p1
     replace p2:=(hbl.cell (p:=⟨g,k*2+1,none⟩) hg).trans p2
     have HT:=Lib.hid (show ((sortF ed.faults).map (fun (p:Nat×Nat)=>Value.int .i64 (p.2:Int))).take (k+1)=((sortF ed.faults).map (fun (p:Nat×Nat)=>Value.int .i64 (p.2:Int))).take k++[.int .i64 (p.2:Int)] by
      rw[List.take_add_one,List.getElem?_map,hp];rfl)
     have HBL:=Lib.hid hbl;clear HR hp hbl;have hN:=Holds.new (wr.alloc (.cells #[.int .i64 (p.1:Int),.int .i64 (p.2:Int)] 248)) 49 #[.int .i64 (p.2:Int)];rw[show (wr.alloc (.cells #[.int .i64 (p.1:Int),.int .i64 (p.2:Int)] 248)).heap.size=wr.heap.size+1 by simp] at hN;have HNW:=Lib.hid hN;clear hN
     go_wp2_with (at_builtin;refine wpList_app_el _ rfl _ _ 187 rfl w4.heap.size 49 (.int .i64 0) 1 8 Tryz.underlying187 fault_info rfl (by omega) _ k _ rfl ((hown.alloc _).alloc _) _ 1 [.int .i64 (p.2:Int)] rfl rfl HNW.out (by simp[Value.oneCell']) (by omega) (by omega) (by simp;omega) ?_)
     intro v1 w5 ho5 hg5 hn5;have hb5:Below w4.heap.size w4 w5:=((HBL.out.alloc hsz (.cells #[.int .i64 (p.1:Int),.int .i64 (p.2:Int)] 248)).alloc (by simp;omega) (.cells #[.int .i64 (p.2:Int)] 49)).trans ((Chg.grown hg5).toBelow (by simp;omega) (fun b hb=>(hown.lt b hb.symm).1));rw[←HT.out] at ho5;have HR5:=hidH2 ho5 hb5;clear hown hg5 hn5 ho5 hb5;go_wp2
     go_roundg (gk-1)
     case measure=>omega
     case rel=>exact⟨k+1,by omega,by go_num,HR5.out⟩
    ·obtain rfl:k=n:=by omega
     have h5:=H4.out.keep (Chg.below hbl (fun _=>False)) (fun _ h=>h.elim);obtain⟨sv,tv,hfr⟩:=h5.fr 0 { f with row:=f.row.flush } (by rw[HFS3.out];rfl);obtain⟨q0,_,_,_,_⟩:=frame_cells hfr h5.ho;have q0':wr.cell? ⟨ob,0,none⟩=some sv:=by simpa using q0
     have HFR:Hid (Forest wr (fun b=>w.heap.size≤b∧b<wr.heap.size) sv f.row.flush.sp):=hfr.sp.forest (fun b hb=>⟨h5.ge4 hb,h5.lt4 hb⟩) (fun b hb=>hfr.sp.lt b hb);have H5:=Lib.hid h5;have HBW:=Lib.hid (HB4.out.trans (hbl.mono hB4));clear h5 hfr q0 HR hbl
     go_wp2_with fail
     refine (top_any (n:=0) H5.out (by omega)).mono ?_;rintro e w6 ⟨rfl,kk6,rfl⟩;go_wp2
     go_ret2
     have hso:spansOf s.data.toList=f.row.flush.sp:=by rw[HSO.out,HFS.out]
     have hfo:faultsOf s.data.toList=(sortF ed.faults).map (·.2):=HFO.out;refine⟨sv,_,rfl,?_,?_,?_⟩
     ·exact⟨HBW.out.os,HBW.out.tape,HBW.out.output,HBW.out.size,HBW.out.block⟩
     ·rw[hso];exact HFR.out.keep (fun _ h=>h) (fun _ _ _ h=>h)
     ·unfold FaultRow;rw[hfo,List.length_map,HSL.out,List.map_map];rw[List.take_of_length_le (by rw[List.length_map,HSL.out];exact Nat.le_refl _)] at hown;exact⟨hown.1,hown.2.imp id (fun ⟨g,cap,cur,a,b,r⟩=>⟨g,cap,cur,a,by omega,r⟩)⟩
end Go.Proofs.YtkkebmciiiajeaaGreatDoor
namespace Go.Bd
open Go.RowKit
section
variable {w w':World} {F G:Nat→Prop} {v:Value} {l:List Sp}
end
end Go.Bd
namespace Go.Bd
mutual
def sz1:Sp→Nat
 | ⟨_,t,u,v,kids⟩=>1+t.length+u.length+v.length+szL kids
def szL:List Sp→Nat
 | []=>0
 | x::l=>1+sz1 x+szL l
end
mutual
def dp1:Sp→Nat
 | ⟨_,_,_,_,kids⟩=>1+dpL kids
def dpL:List Sp→Nat
 | []=>0
 | x::l=>max (dp1 x) (dpL l)
end
mutual
theorem dp_sz1:∀x:Sp,dp1 x≤sz1 x
 | ⟨_,_,_,_,kids⟩=>by have:=dp_szL kids;simp only[dp1,sz1];omega
theorem dp_szL:∀l:List Sp,dpL l≤szL l
 | []=>Nat.le_refl _
 | x::l=>by have:=dp_sz1 x;have:=dp_szL l;simp only[dpL,szL];omega
end
end Go.Bd
namespace Go.Bd
open Go.RowKit
section
variable {α:Type}
abbrev Rel (α:Type):=World→(Nat→Prop)→Value→α→Prop
def Rel.Stays (R:Rel α):Prop:=∀(w w':World) (F G S:Nat→Prop) (v:Value) (x:α),R w F v x→Chg w w' S→(∀b,F b→G b)→(∀b,F b→¬S b)→R w' G v x
theorem Rel.Stays.go {R:Rel α} (hR:R.Stays){w w':World}{F G S:Nat→Prop}{v:Value}{x:α} (h:R w F v x) (hc:Chg w w' S) (hk:∀b,F b→G b) (hS:∀b,F b→¬S b):R w' G v x:=hR w w' F G S v x h hc hk hS
def RowF (R:Rel α) (w:World) (F:Nat→Prop) (v:Value) (l:List α):Prop :=
 ∃(A:Option Addr) (c:Nat) (kvs:List Value),v=.slice A l.length c∧l.length≤c∧kvs.length=l.length∧(l≠[]→∃b off,A=some ⟨b,off,none⟩∧F b∧∀(j:Nat) kv,kvs[j]? = some kv→w.cell? ⟨b,off+j,none⟩=some kv) ∧
  ∀(j:Nat) x kv,l[j]? = some x→kvs[j]? = some kv→R w F kv x
theorem RowF.stays {R:Rel α} (hR:R.Stays):Rel.Stays (RowF R):=by
 rintro w w' F G S v l ⟨A,c,kvs,e,hc,hl,hA,hk⟩ hch hFG hFS;refine⟨A,c,kvs,e,hc,hl,fun hn=>?_,fun j x kv e1 e2=>hR.go (hk j x kv e1 e2) hch hFG hFS⟩;obtain⟨b,off,h1,h2,h3⟩:=hA hn;exact⟨b,off,h1,hFG b h2,fun j kv e=>hch.cell (hFS b h2) (h3 j kv e)⟩
theorem RowF.len {R:Rel α}{w:World}{F:Nat→Prop}{v:Value}{l:List α} (h:RowF R w F v l):∃A c,v=.slice A l.length c∧l.length≤c:=by
 obtain⟨A,c,kvs,e,hc,_⟩:=h;exact⟨A,c,e,hc⟩
end
theorem Forest.stays:Rel.Stays (α:=List Sp) Forest:=fun _ _ _ _ _ _ _ h hc hk hS=>h.chg hc hk hS
def CellsF:Rel (List (List Sp)):=RowF Forest
def RowsF:Rel (List (List (List Sp))):=RowF CellsF
theorem CellsF.stays:Rel.Stays CellsF:=RowF.stays (R:=Forest) Forest.stays
theorem RowsF.stays:Rel.Stays RowsF:=RowF.stays (R:=CellsF) CellsF.stays
end Go.Bd
namespace Go.Proofs.YtkkebmciiiajeaaGreatDoor
open Go.RowKit Go.Bd
theorem blank_fun:(fun c=>([32,9]:Bs).contains c)=Go.Bd.blank:=by
 funext c
 rw[Bool.eq_iff_iff,blank_iff];simp only[List.contains_eq_mem,List.mem_cons,List.not_mem_nil,or_false,decide_eq_true_eq,←UInt8.toNat_inj];simp;omega
theorem strTrimL_any (s:ByteArray) (w:World) (hs:s.size≤9223372036854775807) :
  Calls Tryz.prog 72 #[.string s,.string ⟨#[32,9]⟩] w fun e w'=>e=.returned (strV (dropL s.data.toList))∧Below w.heap.size w w':=by
 refine (Any.strings_TrimLeft_laid Tryz.lays161 set_info s ⟨#[32,9]⟩ w (by decide) (ascii_of_all (by decide))).mono ?_;rintro e w' ⟨he,hb⟩;refine⟨?_,hb⟩;rw[he];exact congrArg (fun l:Bs=>Ending.returned (strV l)) (by rw[Lib.trimLeftS,dropL];show List.dropWhile (fun c=>([32,9]:Bs).contains c) _=_;rw[blank_fun])
theorem strTrimR_any (s:ByteArray) (w:World) (hs:s.size≤9223372036854775807) :
  Calls Tryz.prog 176 #[.string s,.string ⟨#[32,9]⟩] w fun e w'=>e=.returned (strV (dropR s.data.toList))∧Below w.heap.size w w':=by
 refine (Any.strings_TrimRight_laid Tryz.lays162 set_info s ⟨#[32,9]⟩ w hs (by decide) (ascii_of_all (by decide))).mono ?_;rintro e w' ⟨he,hb⟩;refine⟨?_,hb⟩;rw[he];exact congrArg (fun l:Bs=>Ending.returned (strV l)) (by rw[Lib.trimRightS,dropR];show (List.dropWhile (fun c=>([32,9]:Bs).contains c) _).reverse=_;rw[blank_fun])
end Go.Proofs.YtkkebmciiiajeaaGreatDoor
