/- part 11 -/
import Derived.Deep.QuietTactic
import Derived.Lib.Hide
import Derived.Sort.Walk0
import Derived.Laws.Cover1
import Derived.Deep.AppendLies
import Derived.OrdersHeld
import Derived.Deep.RegionHeld
import Derived.Lib.IndexMore
import Derived.OwnWalk
import Derived.Laws.AppendOwnNone
import Derived.Test.YtkkebmciiiajeaaGreatDoorK0
import Derived.Test.YtkkebmciiiajeaaGreatDoorK10
set_option linter.unusedSimpArgs false
set_option linter.unusedVariables false
set_option maxHeartbeats 16000000
set_option maxRecDepth 100000
namespace Go.Proofs.YtkkebmciiiajeaaGreatDoor
open Go.RowKit Go.Bd
section
variable {w w':World} {κ κ':Nat→Nat} {rb wm:Nat} {sv:Value} {v:Rv} {st:Ast} {stk:Stk}
theorem ARd.far {c:Nat} (h:ARd w κ rb wm sv v st stk) (R:Rest w w' κ c κ'){k:Nat} (hk:κ k≠0):κ' k=κ k:=R.old k (h.lt k hk)
theorem ARd.set_attrs (h:ARd w κ rb wm sv v st stk) (R:Rest w w' κ 6 κ'){x:Value}{l:List At} (hh:Holds w' rb tAr #[sv,x,.map (some wm),v.ov,.int .i64 (st.count:Int),.map (some v.dm),.map (some v.am),.map (some v.bm),v.lv,v.dv,v.fv]) (ho:w'.ownsRow 0 tAt 2 x l.length (rowAt l)) (hk:∀k,x.ownBlock=some k→κ' k=6):ARd w' κ' rb wm sv { v with av:=x } { st with attrs:=l } stk :=
 ⟨hh,
  ho,
  h.done.chg R.chg (by have:=h.kD;omega),
  h.asked.chg R.chg (by have:=h.kA;omega),
  h.begun.chg R.chg (by have:=h.kB;omega),
  R.chg.owns h.lines (fun k hk hs=>by have:=h.kL k hk;omega),
  R.chg.owns h.diags (fun k hk hs=>by have:=h.kG k hk;omega),
  R.chg.owns h.files (fun k hk hs=>by have:=h.kF k hk;omega),
  R.chg.owns h.opens (fun k hk hs=>by have:=h.kO k hk;omega),
  h.len,
  fun j p s hp hs=>(h.src j p s hp hs).chg R.chg (fun k hk hs=>by omega) (fun k hk=>R.old k hk),
  h.words.chg R.chg (by have:=h.kW;omega),
  (h.far R (by rw[h.kR];omega)).trans h.kR,
  (h.far R (by rw[h.kW];omega)).trans h.kW,
  (h.far R (by rw[h.kD];omega)).trans h.kD,
  (h.far R (by rw[h.kA];omega)).trans h.kA,
  (h.far R (by rw[h.kB];omega)).trans h.kB,
  hk,
  fun k hk=>(h.far R (by rw[h.kO k hk];omega)).trans (h.kO k hk),
  fun k hk=>(h.far R (by rw[h.kL k hk];omega)).trans (h.kL k hk),
  fun k hk=>(h.far R (by rw[h.kG k hk];omega)).trans (h.kG k hk),
  fun k hk=>(h.far R (by rw[h.kF k hk];omega)).trans (h.kF k hk),
  R.lt,
  h.three' R.old,
  h.uD,
  h.uA,
  h.uB⟩
theorem ARd.set_lines (h:ARd w κ rb wm sv v st stk) (R:Rest w w' κ 8 κ'){x:Value}{l:List Ln} (hh:Holds w' rb tAr #[sv,v.av,.map (some wm),v.ov,.int .i64 (st.count:Int),.map (some v.dm),.map (some v.am),.map (some v.bm),x,v.dv,v.fv]) (ho:w'.ownsRow 0 tLn 3 x l.length (rowLn l)) (hk:∀k,x.ownBlock=some k→κ' k=8):ARd w' κ' rb wm sv { v with lv:=x } { st with lines:=l } stk :=
 ⟨hh,
  R.chg.owns h.attrs (fun k hk hs=>by have:=h.kAt k hk;omega),
  h.done.chg R.chg (by have:=h.kD;omega),
  h.asked.chg R.chg (by have:=h.kA;omega),
  h.begun.chg R.chg (by have:=h.kB;omega),
  ho,
  R.chg.owns h.diags (fun k hk hs=>by have:=h.kG k hk;omega),
  R.chg.owns h.files (fun k hk hs=>by have:=h.kF k hk;omega),
  R.chg.owns h.opens (fun k hk hs=>by have:=h.kO k hk;omega),
  h.len,
  fun j p s hp hs=>(h.src j p s hp hs).chg R.chg (fun k hk hs=>by omega) (fun k hk=>R.old k hk),
  h.words.chg R.chg (by have:=h.kW;omega),
  (h.far R (by rw[h.kR];omega)).trans h.kR,
  (h.far R (by rw[h.kW];omega)).trans h.kW,
  (h.far R (by rw[h.kD];omega)).trans h.kD,
  (h.far R (by rw[h.kA];omega)).trans h.kA,
  (h.far R (by rw[h.kB];omega)).trans h.kB,
  fun k hk=>(h.far R (by rw[h.kAt k hk];omega)).trans (h.kAt k hk),
  fun k hk=>(h.far R (by rw[h.kO k hk];omega)).trans (h.kO k hk),
  hk,
  fun k hk=>(h.far R (by rw[h.kG k hk];omega)).trans (h.kG k hk),
  fun k hk=>(h.far R (by rw[h.kF k hk];omega)).trans (h.kF k hk),
  R.lt,
  h.three' R.old,
  h.uD,
  h.uA,
  h.uB⟩
theorem ARd.set_diags (h:ARd w κ rb wm sv v st stk) (R:Rest w w' κ 9 κ'){x:Value}{l:List Dg} (hh:Holds w' rb tAr #[sv,v.av,.map (some wm),v.ov,.int .i64 (st.count:Int),.map (some v.dm),.map (some v.am),.map (some v.bm),v.lv,x,v.fv]) (ho:w'.ownsRow 0 tDg 4 x l.length (rowD l)) (hk:∀k,x.ownBlock=some k→κ' k=9):ARd w' κ' rb wm sv { v with dv:=x } { st with diags:=l } stk :=
 ⟨hh,
  R.chg.owns h.attrs (fun k hk hs=>by have:=h.kAt k hk;omega),
  h.done.chg R.chg (by have:=h.kD;omega),
  h.asked.chg R.chg (by have:=h.kA;omega),
  h.begun.chg R.chg (by have:=h.kB;omega),
  R.chg.owns h.lines (fun k hk hs=>by have:=h.kL k hk;omega),
  ho,
  R.chg.owns h.files (fun k hk hs=>by have:=h.kF k hk;omega),
  R.chg.owns h.opens (fun k hk hs=>by have:=h.kO k hk;omega),
  h.len,
  fun j p s hp hs=>(h.src j p s hp hs).chg R.chg (fun k hk hs=>by omega) (fun k hk=>R.old k hk),
  h.words.chg R.chg (by have:=h.kW;omega),
  (h.far R (by rw[h.kR];omega)).trans h.kR,
  (h.far R (by rw[h.kW];omega)).trans h.kW,
  (h.far R (by rw[h.kD];omega)).trans h.kD,
  (h.far R (by rw[h.kA];omega)).trans h.kA,
  (h.far R (by rw[h.kB];omega)).trans h.kB,
  fun k hk=>(h.far R (by rw[h.kAt k hk];omega)).trans (h.kAt k hk),
  fun k hk=>(h.far R (by rw[h.kO k hk];omega)).trans (h.kO k hk),
  fun k hk=>(h.far R (by rw[h.kL k hk];omega)).trans (h.kL k hk),
  hk,
  fun k hk=>(h.far R (by rw[h.kF k hk];omega)).trans (h.kF k hk),
  R.lt,
  h.three' R.old,
  h.uD,
  h.uA,
  h.uB⟩
theorem ARd.set_files (h:ARd w κ rb wm sv v st stk) (R:Rest w w' κ 10 κ'){x:Value}{l:List ByteArray} (hh:Holds w' rb tAr #[sv,v.av,.map (some wm),v.ov,.int .i64 (st.count:Int),.map (some v.dm),.map (some v.am),.map (some v.bm),v.lv,v.dv,x]) (ho:w'.ownsRow 0 tTx 1 x l.length (rowTx l)) (hk:∀k,x.ownBlock=some k→κ' k=10):ARd w' κ' rb wm sv { v with fv:=x } { st with files:=l } stk :=
 ⟨hh,
  R.chg.owns h.attrs (fun k hk hs=>by have:=h.kAt k hk;omega),
  h.done.chg R.chg (by have:=h.kD;omega),
  h.asked.chg R.chg (by have:=h.kA;omega),
  h.begun.chg R.chg (by have:=h.kB;omega),
  R.chg.owns h.lines (fun k hk hs=>by have:=h.kL k hk;omega),
  R.chg.owns h.diags (fun k hk hs=>by have:=h.kG k hk;omega),
  ho,
  R.chg.owns h.opens (fun k hk hs=>by have:=h.kO k hk;omega),
  h.len,
  fun j p s hp hs=>(h.src j p s hp hs).chg R.chg (fun k hk hs=>by omega) (fun k hk=>R.old k hk),
  h.words.chg R.chg (by have:=h.kW;omega),
  (h.far R (by rw[h.kR];omega)).trans h.kR,
  (h.far R (by rw[h.kW];omega)).trans h.kW,
  (h.far R (by rw[h.kD];omega)).trans h.kD,
  (h.far R (by rw[h.kA];omega)).trans h.kA,
  (h.far R (by rw[h.kB];omega)).trans h.kB,
  fun k hk=>(h.far R (by rw[h.kAt k hk];omega)).trans (h.kAt k hk),
  fun k hk=>(h.far R (by rw[h.kO k hk];omega)).trans (h.kO k hk),
  fun k hk=>(h.far R (by rw[h.kL k hk];omega)).trans (h.kL k hk),
  fun k hk=>(h.far R (by rw[h.kG k hk];omega)).trans (h.kG k hk),
  hk,
  R.lt,
  h.three' R.old,
  h.uD,
  h.uA,
  h.uB⟩
theorem ARd.set_done (h:ARd w κ rb wm sv v st stk) (R:Rest w w' κ 3 κ'){l:List ByteArray} (hh:Holds w' rb tAr #[sv,v.av,.map (some wm),v.ov,.int .i64 (st.count:Int),.map (some v.dm),.map (some v.am),.map (some v.bm),v.lv,v.dv,v.fv]) (hm:FsMap w' Tryz.prog tTx v.dm (setFe l)) (hu:Uniq (setFe l)):ARd w' κ' rb wm sv v { st with done:=l } stk :=
 ⟨hh,
  R.chg.owns h.attrs (fun k hk hs=>by have:=h.kAt k hk;omega),
  hm,
  h.asked.chg R.chg (by have:=h.kA;omega),
  h.begun.chg R.chg (by have:=h.kB;omega),
  R.chg.owns h.lines (fun k hk hs=>by have:=h.kL k hk;omega),
  R.chg.owns h.diags (fun k hk hs=>by have:=h.kG k hk;omega),
  R.chg.owns h.files (fun k hk hs=>by have:=h.kF k hk;omega),
  R.chg.owns h.opens (fun k hk hs=>by have:=h.kO k hk;omega),
  h.len,
  fun j p s hp hs=>(h.src j p s hp hs).chg R.chg (fun k hk hs=>by omega) (fun k hk=>R.old k hk),
  h.words.chg R.chg (by have:=h.kW;omega),
  (h.far R (by rw[h.kR];omega)).trans h.kR,
  (h.far R (by rw[h.kW];omega)).trans h.kW,
  (h.far R (by rw[h.kD];omega)).trans h.kD,
  (h.far R (by rw[h.kA];omega)).trans h.kA,
  (h.far R (by rw[h.kB];omega)).trans h.kB,
  fun k hk=>(h.far R (by rw[h.kAt k hk];omega)).trans (h.kAt k hk),
  fun k hk=>(h.far R (by rw[h.kO k hk];omega)).trans (h.kO k hk),
  fun k hk=>(h.far R (by rw[h.kL k hk];omega)).trans (h.kL k hk),
  fun k hk=>(h.far R (by rw[h.kG k hk];omega)).trans (h.kG k hk),
  fun k hk=>(h.far R (by rw[h.kF k hk];omega)).trans (h.kF k hk),
  R.lt,
  h.three' R.old,
  hu,
  h.uA,
  h.uB⟩
theorem ARd.set_asked (h:ARd w κ rb wm sv v st stk) (R:Rest w w' κ 4 κ'){l:List ByteArray} (hh:Holds w' rb tAr #[sv,v.av,.map (some wm),v.ov,.int .i64 (st.count:Int),.map (some v.dm),.map (some v.am),.map (some v.bm),v.lv,v.dv,v.fv]) (hm:FsMap w' Tryz.prog tTx v.am (setFe l)) (hu:Uniq (setFe l)):ARd w' κ' rb wm sv v { st with asked:=l } stk :=
 ⟨hh,
  R.chg.owns h.attrs (fun k hk hs=>by have:=h.kAt k hk;omega),
  h.done.chg R.chg (by have:=h.kD;omega),
  hm,
  h.begun.chg R.chg (by have:=h.kB;omega),
  R.chg.owns h.lines (fun k hk hs=>by have:=h.kL k hk;omega),
  R.chg.owns h.diags (fun k hk hs=>by have:=h.kG k hk;omega),
  R.chg.owns h.files (fun k hk hs=>by have:=h.kF k hk;omega),
  R.chg.owns h.opens (fun k hk hs=>by have:=h.kO k hk;omega),
  h.len,
  fun j p s hp hs=>(h.src j p s hp hs).chg R.chg (fun k hk hs=>by omega) (fun k hk=>R.old k hk),
  h.words.chg R.chg (by have:=h.kW;omega),
  (h.far R (by rw[h.kR];omega)).trans h.kR,
  (h.far R (by rw[h.kW];omega)).trans h.kW,
  (h.far R (by rw[h.kD];omega)).trans h.kD,
  (h.far R (by rw[h.kA];omega)).trans h.kA,
  (h.far R (by rw[h.kB];omega)).trans h.kB,
  fun k hk=>(h.far R (by rw[h.kAt k hk];omega)).trans (h.kAt k hk),
  fun k hk=>(h.far R (by rw[h.kO k hk];omega)).trans (h.kO k hk),
  fun k hk=>(h.far R (by rw[h.kL k hk];omega)).trans (h.kL k hk),
  fun k hk=>(h.far R (by rw[h.kG k hk];omega)).trans (h.kG k hk),
  fun k hk=>(h.far R (by rw[h.kF k hk];omega)).trans (h.kF k hk),
  R.lt,
  h.three' R.old,
  h.uD,
  hu,
  h.uB⟩
theorem ARd.set_begun (h:ARd w κ rb wm sv v st stk) (R:Rest w w' κ 5 κ'){l:List ByteArray} (hh:Holds w' rb tAr #[sv,v.av,.map (some wm),v.ov,.int .i64 (st.count:Int),.map (some v.dm),.map (some v.am),.map (some v.bm),v.lv,v.dv,v.fv]) (hm:FsMap w' Tryz.prog tTx v.bm (setFe l)) (hu:Uniq (setFe l)):ARd w' κ' rb wm sv v { st with begun:=l } stk :=
 ⟨hh,
  R.chg.owns h.attrs (fun k hk hs=>by have:=h.kAt k hk;omega),
  h.done.chg R.chg (by have:=h.kD;omega),
  h.asked.chg R.chg (by have:=h.kA;omega),
  hm,
  R.chg.owns h.lines (fun k hk hs=>by have:=h.kL k hk;omega),
  R.chg.owns h.diags (fun k hk hs=>by have:=h.kG k hk;omega),
  R.chg.owns h.files (fun k hk hs=>by have:=h.kF k hk;omega),
  R.chg.owns h.opens (fun k hk hs=>by have:=h.kO k hk;omega),
  h.len,
  fun j p s hp hs=>(h.src j p s hp hs).chg R.chg (fun k hk hs=>by omega) (fun k hk=>R.old k hk),
  h.words.chg R.chg (by have:=h.kW;omega),
  (h.far R (by rw[h.kR];omega)).trans h.kR,
  (h.far R (by rw[h.kW];omega)).trans h.kW,
  (h.far R (by rw[h.kD];omega)).trans h.kD,
  (h.far R (by rw[h.kA];omega)).trans h.kA,
  (h.far R (by rw[h.kB];omega)).trans h.kB,
  fun k hk=>(h.far R (by rw[h.kAt k hk];omega)).trans (h.kAt k hk),
  fun k hk=>(h.far R (by rw[h.kO k hk];omega)).trans (h.kO k hk),
  fun k hk=>(h.far R (by rw[h.kL k hk];omega)).trans (h.kL k hk),
  fun k hk=>(h.far R (by rw[h.kG k hk];omega)).trans (h.kG k hk),
  fun k hk=>(h.far R (by rw[h.kF k hk];omega)).trans (h.kF k hk),
  R.lt,
  h.three' R.old,
  h.uD,
  h.uA,
  hu⟩
theorem ARd.set_count (h:ARd w κ rb wm sv v st stk) (R:Rest w w' κ 1 κ'){n:Nat} (hh:Holds w' rb tAr #[sv,v.av,.map (some wm),v.ov,.int .i64 (n:Int),.map (some v.dm),.map (some v.am),.map (some v.bm),v.lv,v.dv,v.fv]):ARd w' κ' rb wm sv v { st with count:=n } stk :=
 ⟨hh,
  R.chg.owns h.attrs (fun k hk hs=>by have:=h.kAt k hk;omega),
  h.done.chg R.chg (by have:=h.kD;omega),
  h.asked.chg R.chg (by have:=h.kA;omega),
  h.begun.chg R.chg (by have:=h.kB;omega),
  R.chg.owns h.lines (fun k hk hs=>by have:=h.kL k hk;omega),
  R.chg.owns h.diags (fun k hk hs=>by have:=h.kG k hk;omega),
  R.chg.owns h.files (fun k hk hs=>by have:=h.kF k hk;omega),
  R.chg.owns h.opens (fun k hk hs=>by have:=h.kO k hk;omega),
  h.len,
  fun j p s hp hs=>(h.src j p s hp hs).chg R.chg (fun k hk hs=>by omega) (fun k hk=>R.old k hk),
  h.words.chg R.chg (by have:=h.kW;omega),
  (h.far R (by rw[h.kR];omega)).trans h.kR,
  (h.far R (by rw[h.kW];omega)).trans h.kW,
  (h.far R (by rw[h.kD];omega)).trans h.kD,
  (h.far R (by rw[h.kA];omega)).trans h.kA,
  (h.far R (by rw[h.kB];omega)).trans h.kB,
  fun k hk=>(h.far R (by rw[h.kAt k hk];omega)).trans (h.kAt k hk),
  fun k hk=>(h.far R (by rw[h.kO k hk];omega)).trans (h.kO k hk),
  fun k hk=>(h.far R (by rw[h.kL k hk];omega)).trans (h.kL k hk),
  fun k hk=>(h.far R (by rw[h.kG k hk];omega)).trans (h.kG k hk),
  fun k hk=>(h.far R (by rw[h.kF k hk];omega)).trans (h.kF k hk),
  R.lt,
  h.three' R.old,
  h.uD,
  h.uA,
  h.uB⟩
theorem ARd.set_top {pre:Stk}{nm:ByteArray}{cs cs':List Cd}{pb:List (Nat×Value)}{b:Nat}{rv rv':Value} (h:ARd w κ rb wm sv v st (pre++[(nm,cs)])) (hv:v.sb=pb++[(b,rv)]) (R:Chg w w' (fun k=>κ k=20+2*pre.length∨κ k=21+2*pre.length)) (old:∀k,k<w.heap.size→κ' k=κ k) (lt:∀k,κ' k≠0→k<w'.heap.size)
  (hs:SrcAt w' κ' pre.length (b,rv') (nm,cs')):ARd w' κ' rb wm sv { v with sb:=pb++[(b,rv')] } st (pre++[(nm,cs')]):=by
 have far:∀{k:Nat},κ k≠0→κ' k=κ k:=fun {k} hk=>old k (h.lt k hk)
 have hl:pb.length=pre.length:=by have:=h.len;rw[hv] at this;simpa using this
 exact⟨R.holds (by have:=h.kR;omega) h.hold,
  R.owns h.attrs (fun k hk hs=>by have:=h.kAt k hk;omega),
  h.done.chg R (by have:=h.kD;omega),
  h.asked.chg R (by have:=h.kA;omega),
  h.begun.chg R (by have:=h.kB;omega),
  R.owns h.lines (fun k hk hs=>by have:=h.kL k hk;omega),
  R.owns h.diags (fun k hk hs=>by have:=h.kG k hk;omega),
  R.owns h.files (fun k hk hs=>by have:=h.kF k hk;omega),
  by have:=R.owns h.opens (fun k hk hs=>by have:=h.kO k hk;omega);rw[hv] at this;simpa using this,
  by simp[hl],
  fun j p s hp hq=>by
   by_cases hj:j<pre.length
   ·rw[List.getElem?_append_left (by omega)] at hp;rw[List.getElem?_append_left hj] at hq;exact (h.src j p s (by rw[hv,List.getElem?_append_left (by omega)];exact hp) (by rw[List.getElem?_append_left hj];exact hq)).chg R (fun k hk hs=>by omega) old
   ·have hj2:j=pre.length:=by have:=(List.getElem?_eq_some_iff.1 hq).1;simp at this;omega
    subst hj2;rw[List.getElem?_append_right (by omega),hl,Nat.sub_self] at hp;rw[List.getElem?_append_right (Nat.le_refl _),Nat.sub_self] at hq;cases hp;cases hq
    exact hs,
  h.words.chg R (by have:=h.kW;omega),
  (far (by rw[h.kR];omega)).trans h.kR,
  (far (by rw[h.kW];omega)).trans h.kW,
  (far (by rw[h.kD];omega)).trans h.kD,
  (far (by rw[h.kA];omega)).trans h.kA,
  (far (by rw[h.kB];omega)).trans h.kB,
  fun k hk=>(far (by rw[h.kAt k hk];omega)).trans (h.kAt k hk),
  fun k hk=>(far (by rw[h.kO k hk];omega)).trans (h.kO k hk),
  fun k hk=>(far (by rw[h.kL k hk];omega)).trans (h.kL k hk),
  fun k hk=>(far (by rw[h.kG k hk];omega)).trans (h.kG k hk),
  fun k hk=>(far (by rw[h.kF k hk];omega)).trans (h.kF k hk),
  lt,h.three' old,h.uD,h.uA,h.uB⟩
theorem ARd.push (h:ARd w κ rb wm sv v st stk) (R:Rest w w' κ 7 κ'){x:Value}{b:Nat}{nm:ByteArray} (hh:Holds w' rb tAr #[sv,v.av,.map (some wm),x,.int .i64 (st.count:Int),.map (some v.dm),.map (some v.am),.map (some v.bm),v.lv,v.dv,v.fv]) (ho:w'.ownsRow 0 tSp 1 x (stk.length+1) (v.sb.map (fun p=>.pointer (some ⟨p.1,0,none⟩))++[.pointer (some ⟨b,0,none⟩)])) (hk:∀k,x.ownBlock=some k→κ' k=7)
  (hs:SrcAt w' κ' stk.length (b,.slice none 0 0) (nm,[])):ARd w' κ' rb wm sv { v with ov:=x,sb:=v.sb++[(b,.slice none 0 0)] } st (stk++[(nm,[])]) :=
 ⟨hh,R.chg.owns h.attrs (fun k hk hs=>by have:=h.kAt k hk;omega),
  h.done.chg R.chg (by have:=h.kD;omega),
  h.asked.chg R.chg (by have:=h.kA;omega),
  h.begun.chg R.chg (by have:=h.kB;omega),
  R.chg.owns h.lines (fun k hk hs=>by have:=h.kL k hk;omega),
  R.chg.owns h.diags (fun k hk hs=>by have:=h.kG k hk;omega),
  R.chg.owns h.files (fun k hk hs=>by have:=h.kF k hk;omega),
  by simpa using ho,
  by simp[h.len],
  fun j p s hp hq=>by
   have hl:=h.len
   by_cases hj:j<stk.length
   ·rw[List.getElem?_append_left (by omega)] at hp;rw[List.getElem?_append_left hj] at hq;exact (h.src j p s hp hq).chg R.chg (fun k hk hs=>by omega) (fun k hk=>R.old k hk)
   ·have hj2:j=stk.length:=by have:=(List.getElem?_eq_some_iff.1 hq).1;simp at this;omega
    subst hj2;rw[List.getElem?_append_right (by omega),hl,Nat.sub_self] at hp;rw[List.getElem?_append_right (Nat.le_refl _),Nat.sub_self] at hq;cases hp;cases hq
    exact hs,
  h.words.chg R.chg (by have:=h.kW;omega),
  (h.far R (by rw[h.kR];omega)).trans h.kR,
  (h.far R (by rw[h.kW];omega)).trans h.kW,
  (h.far R (by rw[h.kD];omega)).trans h.kD,
  (h.far R (by rw[h.kA];omega)).trans h.kA,
  (h.far R (by rw[h.kB];omega)).trans h.kB,
  fun k hk=>(h.far R (by rw[h.kAt k hk];omega)).trans (h.kAt k hk),
  hk,
  fun k hk=>(h.far R (by rw[h.kL k hk];omega)).trans (h.kL k hk),
  fun k hk=>(h.far R (by rw[h.kG k hk];omega)).trans (h.kG k hk),
  fun k hk=>(h.far R (by rw[h.kF k hk];omega)).trans (h.kF k hk),
  R.lt,h.three' R.old,h.uD,h.uA,h.uB⟩
theorem ARd.pop {pre:Stk}{s:ByteArray×List Cd}{pb:List (Nat×Value)}{p:Nat×Value} (h:ARd w κ rb wm sv v st (pre++[s])) (hv:v.sb=pb++[p]) (R:Rest w w' κ 7 κ'){x:Value} (hh:Holds w' rb tAr #[sv,v.av,.map (some wm),x,.int .i64 (st.count:Int),.map (some v.dm),.map (some v.am),.map (some v.bm),v.lv,v.dv,v.fv]) (ho:w'.ownsRow 0 tSp 1 x pre.length (pb.map (fun p=>.pointer (some ⟨p.1,0,none⟩)))) (hk:∀k,x.ownBlock=some k→κ' k=7):ARd w' κ' rb wm sv { v with ov:=x,sb:=pb } st pre :=
 ⟨hh,R.chg.owns h.attrs (fun k hk hs=>by have:=h.kAt k hk;omega),
  h.done.chg R.chg (by have:=h.kD;omega),
  h.asked.chg R.chg (by have:=h.kA;omega),
  h.begun.chg R.chg (by have:=h.kB;omega),
  R.chg.owns h.lines (fun k hk hs=>by have:=h.kL k hk;omega),
  R.chg.owns h.diags (fun k hk hs=>by have:=h.kG k hk;omega),
  R.chg.owns h.files (fun k hk hs=>by have:=h.kF k hk;omega),
  ho,
  by have:=h.len;rw[hv] at this;simpa using this,
  fun j p s hp hq=>by
   have hl:pb.length=pre.length:=by have:=h.len;rw[hv] at this;simpa using this
   have hj:=(List.getElem?_eq_some_iff.1 hq).1;exact (h.src j p s (by rw[hv,List.getElem?_append_left (by omega)];exact hp) (by rw[List.getElem?_append_left hj];exact hq)).chg R.chg (fun k hk hs=>by omega) (fun k hk=>R.old k hk),
  h.words.chg R.chg (by have:=h.kW;omega),
  (h.far R (by rw[h.kR];omega)).trans h.kR,
  (h.far R (by rw[h.kW];omega)).trans h.kW,
  (h.far R (by rw[h.kD];omega)).trans h.kD,
  (h.far R (by rw[h.kA];omega)).trans h.kA,
  (h.far R (by rw[h.kB];omega)).trans h.kB,
  fun k hk=>(h.far R (by rw[h.kAt k hk];omega)).trans (h.kAt k hk),
  hk,
  fun k hk=>(h.far R (by rw[h.kL k hk];omega)).trans (h.kL k hk),
  fun k hk=>(h.far R (by rw[h.kG k hk];omega)).trans (h.kG k hk),
  fun k hk=>(h.far R (by rw[h.kF k hk];omega)).trans (h.kF k hk),
  R.lt,h.three' R.old,h.uD,h.uA,h.uB⟩
theorem tell_rest {A:Option Addr}{c g cap:Nat}{W1 w2:World}{l:List Dg} (h:ARd W1 κ rb wm sv v st stk) (hv:v.dv=.slice A l.length c) (hc:Chg W1 w2 (fun b=>(Value.slice A l.length c).ownBlock=some b)) (hat:(Value.slice A l.length c).ownBlock=some g∨g=W1.heap.size+1) (hg:g<w2.heap.size) :
  Rest W1 (w2.setCell ⟨rb,9,none⟩ (.slice (some ⟨g,0,none⟩) (l.length+1) cap)) κ 9 (recol κ W1.heap.size g 9):=by
 have hS:=Chg.set w2 ⟨rb,9,none⟩ (.slice (some ⟨g,0,none⟩) (l.length+1) cap);refine⟨(hc.mono (T:=fun k=>κ k=1∨κ k=9) (fun k _ hk=>.inr (h.kG k (by rw[hv];exact hk)))).trans hS (fun k _ hk=>.inl (by rw[show k=rb from hk];exact h.kR)),fun k hk=>recol_old hk,fun k hk=>?_⟩;have hz:(w2.setCell ⟨rb,9,none⟩ (.slice (some ⟨g,0,none⟩) (l.length+1) cap)).heap.size=w2.heap.size:=by simp[World.setCell]
 rw[hz];unfold recol at hk;split at hk
 ·have:=hc.size;omega
 ·split at hk
  ·omega
  ·exact absurd rfl hk
theorem tell_done {A:Option Addr}{c g cap:Nat}{W1 w2:World}{l:List Dg}{d:Dg} (h:ARd W1 κ rb wm sv v st stk) (hv:v.dv=.slice A l.length c) (hl:st.diags=l) (hc:Chg W1 w2 (fun b=>(Value.slice A l.length c).ownBlock=some b)) (ho:w2.ownsRow 0 tDg 4 (.slice (some ⟨g,0,none⟩) (l.length+1) cap) (l.length+1) (rowD l++(dgCells) d)) (hat:(Value.slice A l.length c).ownBlock=some g∨g=W1.heap.size+1)
  (hh:Holds w2 rb tAr #[sv,v.av,.map (some wm),v.ov,.int .i64 (st.count:Int),.map (some v.dm),.map (some v.am),.map (some v.bm),v.lv,v.dv,v.fv]) (hg:g<w2.heap.size) (hgb:g≠rb) :
  ARd (w2.setCell ⟨rb,9,none⟩ (.slice (some ⟨g,0,none⟩) (l.length+1) cap)) (recol κ W1.heap.size g 9) rb wm sv { v with dv:=.slice (some ⟨g,0,none⟩) (l.length+1) cap } { st with diags:=st.diags++[d] } stk:=by
 have R:=tell_rest h hv hc hat hg (cap:=cap);refine h.set_diags R (hh.set 9 _) ?_ (fun k hk=>?_)
 ·rw[hl,List.length_append,List.length_singleton];have e:rowD (l++[d])=rowD l++(dgCells) d:=by rw[rowD_append];simp[rowD]
  rw[e];exact (Chg.set w2 ⟨rb,9,none⟩ (.slice (some ⟨g,0,none⟩) (l.length+1) cap)).owns ho (fun k hk e=>hgb ((show g=k from (by simpa [Value.ownBlock] using hk)).trans e))
 ·have e1:g=k:=by simpa [Value.ownBlock] using hk
  rw[←e1];refine recol_at ?_ (fun hk=>h.lt _ (by omega))
  rcases hat with h1|h1
  ·exact .inl (h.kG g (by rw[hv];exact h1))
  ·exact .inr (by omega)
theorem tell_mv {A:Option Addr}{c g cap:Nat}{W1 w2:World}{l:List Dg} (h:ARd W1 κ rb wm sv v st stk) (hv:v.dv=.slice A l.length c) (hl:st.diags=l) (hc:Chg W1 w2 (fun b=>(Value.slice A l.length c).ownBlock=some b)) (hat:(Value.slice A l.length c).ownBlock=some g∨g=W1.heap.size+1) (hg:g<w2.heap.size) :
  Mv W1 (w2.setCell ⟨rb,9,none⟩ (.slice (some ⟨g,0,none⟩) (l.length+1) cap)) κ (recol κ W1.heap.size g 9):=(tell_rest h hv hc hat hg).mv (by decide)
theorem line_rest {A:Option Addr}{c g cap:Nat}{W1 w2:World}{l:List Ln} (h:ARd W1 κ rb wm sv v st stk) (hv:v.lv=.slice A l.length c) (hc:Chg W1 w2 (fun b=>(Value.slice A l.length c).ownBlock=some b)) (hat:(Value.slice A l.length c).ownBlock=some g∨g=W1.heap.size+1) (hg:g<w2.heap.size) :
  Rest W1 (w2.setCell ⟨rb,8,none⟩ (.slice (some ⟨g,0,none⟩) (l.length+1) cap)) κ 8 (recol κ W1.heap.size g 8):=by
 have hS:=Chg.set w2 ⟨rb,8,none⟩ (.slice (some ⟨g,0,none⟩) (l.length+1) cap);refine⟨(hc.mono (T:=fun k=>κ k=1∨κ k=8) (fun k _ hk=>.inr (h.kL k (by rw[hv];exact hk)))).trans hS (fun k _ hk=>.inl (by rw[show k=rb from hk];exact h.kR)),fun k hk=>recol_old hk,fun k hk=>?_⟩;have hz:(w2.setCell ⟨rb,8,none⟩ (.slice (some ⟨g,0,none⟩) (l.length+1) cap)).heap.size=w2.heap.size:=by simp[World.setCell]
 rw[hz];unfold recol at hk;split at hk
 ·have:=hc.size;omega
 ·split at hk
  ·omega
  ·exact absurd rfl hk
theorem line_done {A:Option Addr}{c g cap:Nat}{W1 w2:World}{l:List Ln}{d:Ln} (h:ARd W1 κ rb wm sv v st stk) (hv:v.lv=.slice A l.length c) (hl:st.lines=l) (hc:Chg W1 w2 (fun b=>(Value.slice A l.length c).ownBlock=some b)) (ho:w2.ownsRow 0 tLn 3 (.slice (some ⟨g,0,none⟩) (l.length+1) cap) (l.length+1) (rowLn l++(lnCells) d)) (hat:(Value.slice A l.length c).ownBlock=some g∨g=W1.heap.size+1)
  (hh:Holds w2 rb tAr #[sv,v.av,.map (some wm),v.ov,.int .i64 (st.count:Int),.map (some v.dm),.map (some v.am),.map (some v.bm),v.lv,v.dv,v.fv]) (hg:g<w2.heap.size) (hgb:g≠rb) :
  ARd (w2.setCell ⟨rb,8,none⟩ (.slice (some ⟨g,0,none⟩) (l.length+1) cap)) (recol κ W1.heap.size g 8) rb wm sv { v with lv:=.slice (some ⟨g,0,none⟩) (l.length+1) cap } { st with lines:=st.lines++[d] } stk:=by
 have R:=line_rest h hv hc hat hg (cap:=cap);refine h.set_lines R (hh.set 8 _) ?_ (fun k hk=>?_)
 ·rw[hl,List.length_append,List.length_singleton];have e:rowLn (l++[d])=rowLn l++(lnCells) d:=by unfold rowLn;rw[List.flatMap_append];simp
  rw[e];exact (Chg.set w2 ⟨rb,8,none⟩ (.slice (some ⟨g,0,none⟩) (l.length+1) cap)).owns ho (fun k hk e=>hgb ((show g=k from (by simpa [Value.ownBlock] using hk)).trans e))
 ·have e1:g=k:=by simpa [Value.ownBlock] using hk
  rw[←e1];refine recol_at ?_ (fun hk=>h.lt _ (by omega))
  rcases hat with h1|h1
  ·exact .inl (h.kL g (by rw[hv];exact h1))
  ·exact .inr (by omega)
theorem line_mv {A:Option Addr}{c g cap:Nat}{W1 w2:World}{l:List Ln} (h:ARd W1 κ rb wm sv v st stk) (hv:v.lv=.slice A l.length c) (hl:st.lines=l) (hc:Chg W1 w2 (fun b=>(Value.slice A l.length c).ownBlock=some b)) (hat:(Value.slice A l.length c).ownBlock=some g∨g=W1.heap.size+1) (hg:g<w2.heap.size) :
  Mv W1 (w2.setCell ⟨rb,8,none⟩ (.slice (some ⟨g,0,none⟩) (l.length+1) cap)) κ (recol κ W1.heap.size g 8):=(line_rest h hv hc hat hg).mv (by decide)
theorem file_rest {A:Option Addr}{c g cap:Nat}{W1 w2:World}{l:List ByteArray} (h:ARd W1 κ rb wm sv v st stk) (hv:v.fv=.slice A l.length c) (hc:Chg W1 w2 (fun b=>(Value.slice A l.length c).ownBlock=some b)) (hat:(Value.slice A l.length c).ownBlock=some g∨g=W1.heap.size+1) (hg:g<w2.heap.size) :
  Rest W1 (w2.setCell ⟨rb,10,none⟩ (.slice (some ⟨g,0,none⟩) (l.length+1) cap)) κ 10 (recol κ W1.heap.size g 10):=by
 have hS:=Chg.set w2 ⟨rb,10,none⟩ (.slice (some ⟨g,0,none⟩) (l.length+1) cap);refine⟨(hc.mono (T:=fun k=>κ k=1∨κ k=10) (fun k _ hk=>.inr (h.kF k (by rw[hv];exact hk)))).trans hS (fun k _ hk=>.inl (by rw[show k=rb from hk];exact h.kR)),fun k hk=>recol_old hk,fun k hk=>?_⟩;have hz:(w2.setCell ⟨rb,10,none⟩ (.slice (some ⟨g,0,none⟩) (l.length+1) cap)).heap.size=w2.heap.size:=by simp[World.setCell]
 rw[hz];unfold recol at hk;split at hk
 ·have:=hc.size;omega
 ·split at hk
  ·omega
  ·exact absurd rfl hk
theorem file_done {A:Option Addr}{c g cap:Nat}{W1 w2:World}{l:List ByteArray}{d:ByteArray} (h:ARd W1 κ rb wm sv v st stk) (hv:v.fv=.slice A l.length c) (hl:st.files=l) (hc:Chg W1 w2 (fun b=>(Value.slice A l.length c).ownBlock=some b)) (ho:w2.ownsRow 0 tTx 1 (.slice (some ⟨g,0,none⟩) (l.length+1) cap) (l.length+1) (rowTx l++(fun x=>[Value.string x]) d)) (hat:(Value.slice A l.length c).ownBlock=some g∨g=W1.heap.size+1)
  (hh:Holds w2 rb tAr #[sv,v.av,.map (some wm),v.ov,.int .i64 (st.count:Int),.map (some v.dm),.map (some v.am),.map (some v.bm),v.lv,v.dv,v.fv]) (hg:g<w2.heap.size) (hgb:g≠rb) :
  ARd (w2.setCell ⟨rb,10,none⟩ (.slice (some ⟨g,0,none⟩) (l.length+1) cap)) (recol κ W1.heap.size g 10) rb wm sv { v with fv:=.slice (some ⟨g,0,none⟩) (l.length+1) cap } { st with files:=st.files++[d] } stk:=by
 have R:=file_rest h hv hc hat hg (cap:=cap);refine h.set_files R (hh.set 10 _) ?_ (fun k hk=>?_)
 ·rw[hl,List.length_append,List.length_singleton];have e:rowTx (l++[d])=rowTx l++(fun x=>[Value.string x]) d:=by unfold rowTx;simp
  rw[e];exact (Chg.set w2 ⟨rb,10,none⟩ (.slice (some ⟨g,0,none⟩) (l.length+1) cap)).owns ho (fun k hk e=>hgb ((show g=k from (by simpa [Value.ownBlock] using hk)).trans e))
 ·have e1:g=k:=by simpa [Value.ownBlock] using hk
  rw[←e1];refine recol_at ?_ (fun hk=>h.lt _ (by omega))
  rcases hat with h1|h1
  ·exact .inl (h.kF g (by rw[hv];exact h1))
  ·exact .inr (by omega)
theorem file_mv {A:Option Addr}{c g cap:Nat}{W1 w2:World}{l:List ByteArray} (h:ARd W1 κ rb wm sv v st stk) (hv:v.fv=.slice A l.length c) (hl:st.files=l) (hc:Chg W1 w2 (fun b=>(Value.slice A l.length c).ownBlock=some b)) (hat:(Value.slice A l.length c).ownBlock=some g∨g=W1.heap.size+1) (hg:g<w2.heap.size) :
  Mv W1 (w2.setCell ⟨rb,10,none⟩ (.slice (some ⟨g,0,none⟩) (l.length+1) cap)) κ (recol κ W1.heap.size g 10):=(file_rest h hv hc hat hg).mv (by decide)
end
theorem own_rowN {w:World}{base sz n:Nat}{e:TypeId}{v:Value}{xs:List Value} (h:w.ownsRow base e sz v n xs) (hn:0<n):∃g cap,v=.slice (some ⟨g,0,none⟩) n cap∧n≤cap∧cap≤maxLen∧g<w.heap.size∧(∀i u,xs[i]? = some u→w.cell? ⟨g,i,none⟩=some u)∧∀i,w.frozen? ⟨g,i,none⟩=false:=by
 obtain⟨h1,h2|⟨g,cap,cur,h2,h3,h4,h5,h6,h7,h8⟩⟩:=h
 ·omega
 ·refine⟨g,cap,h2,h5,h6,(Array.getElem?_eq_some_iff.1 h4).1,fun i u hu=>?_,fun i=>frozen_of_row w g i cur e h4⟩;rw[cell_of_row w g i cur e (0,0) h4];have hi:=(List.getElem?_eq_some_iff.1 hu).1;rw[←h8,List.getElem?_take_of_lt (by rw[←h8] at hi;simp at hi;omega)] at hu;simpa using hu
theorem own_rowL {w:World}{base sz n:Nat}{e:TypeId}{v:Value}{xs:List Value} (h:w.ownsRow base e sz v n xs):∃A cap,v=.slice A n cap∧n≤cap:=by
 obtain⟨h1,⟨h2,rfl⟩|⟨g,cap,cur,h2,h3,h4,h5,_⟩⟩:=h
 ·exact⟨none,0,h2,Nat.le_refl _⟩
 ·exact⟨_,_,h2,h5⟩
theorem Below.ofDrew (w:World) (n:Nat):Below w.heap.size w (w.drewN n):=((Chg.refl w (fun _=>False)).drewN n).toBelow (Nat.le_refl _) (fun _ h=>h.elim)
section
variable {w:World} {κ:Nat→Nat} {rb wm:Nat} {sv:Value} {v:Rv} {st:Ast} {pre:Stk} {nm:ByteArray} {cs:List Cd} {pb:List (Nat×Value)} {b:Nat} {rv:Value}
theorem ARd.pbl (h:ARd w κ rb wm sv v st (pre++[(nm,cs)])) (hv:v.sb=pb++[(b,rv)]):pb.length=pre.length:=by have:=h.len;rw[hv] at this;simpa using this
theorem ARd.last (h:ARd w κ rb wm sv v st (pre++[(nm,cs)])) (hv:v.sb=pb++[(b,rv)]):SrcAt w κ pre.length (b,rv) (nm,cs) :=
 h.src pre.length _ _ (by rw[hv,List.getElem?_append_right (by rw[h.pbl hv];exact Nat.le_refl _),h.pbl hv];simp) (by simp)
theorem ARd.openAt (h:ARd w κ rb wm sv v st (pre++[(nm,cs)])) (hv:v.sb=pb++[(b,rv)]):∃g cap,v.ov=.slice (some ⟨g,0,none⟩) (pre.length+1) cap∧w.cell? ⟨g,pre.length,none⟩=some (.pointer (some ⟨b,0,none⟩))∧pre.length+1≤cap:=by
 have ho:=h.opens;rw[List.length_append,List.length_singleton] at ho;obtain⟨g,cap,e,h1,_,_,h2,_⟩:=own_rowN ho (by omega);exact⟨g,cap,e,h2 pre.length _ (by rw[hv,List.map_append,List.getElem?_append_right (by simp[h.pbl hv])];simp[h.pbl hv]),h1⟩
theorem a_top (h:ARd w κ rb wm sv v st (pre++[(nm,cs)])) (hv:v.sb=pb++[(b,rv)]) (hn:pre.length≤1000) :
  Calls Tryz.prog 95 #[.pointer (some ⟨rb,0,none⟩)] w fun e w'=>e=.returned (.pointer (some ⟨b,0,none⟩))∧Below w.heap.size w w':=by
 obtain⟨g,cap,e,h1,h2⟩:=h.openAt hv;have c3:=h.hold.cell 3;rw[e] at c3;simp at c3;have e1:IntKind.i64.wrap ((pre.length:Int)+1-1)=(pre.length:Int):=by
  rw[show (pre.length:Int)+1-1=pre.length by omega];exact IntWalk.i64_in _ (by omega)
 have e2:((pre.length:Int)+1-1)=(pre.length:Int):=by omega
 have e3:IntKind.i64.wrap (pre.length:Int)=(pre.length:Int):=IntWalk.i64_in _ (by omega);have hi1:pre.length<pre.length+1:=by omega
 have hi2:¬((pre.length:Int)+1≤(pre.length:Int)):=by omega
 have hi3:(pre.length:Int)<(pre.length:Int)+1:=by omega
 clear h hv e h2;generalize pre.length=n at *
 go_enter Tryz.func95,Tryz.ntmps95
 go_wp2
 go_quiet (fail)
 go_wp2
 go_ret
 exact⟨rfl,Below.ofDrew w _⟩
theorem a_last_nil (h:SrcAt w κ pre.length (b,rv) (nm,[])) :
  Calls Tryz.prog 100 #[.pointer (some ⟨b,0,none⟩)] w fun e w'=>e=.returned (.pointer none)∧w=w':=by
 have c1:=h.hold.cell 1;obtain⟨A,cap,e,_⟩:=own_rowL h.row;dsimp only at e;rw[e] at c1;simp at c1;clear h e
 go_enter Tryz.func100,Tryz.ntmps100
 go_wp2
 go_ret
 exact⟨rfl,rfl⟩
theorem a_last_at {c:Cd} (h:SrcAt w κ pre.length (b,rv) (nm,cs++[c])) (hn:cs.length≤100000) :
  Calls Tryz.prog 100 #[.pointer (some ⟨b,0,none⟩)] w fun e w'=>(∃g cap,rv=.slice (some ⟨g,0,none⟩) (cs.length+1) cap∧e=.returned (.pointer (some ⟨g,cs.length*6,none⟩)))∧Below w.heap.size w w':=by
 have c1:=h.hold.cell 1;have hr:=h.row;rw[List.length_append,List.length_singleton] at hr;obtain⟨g,cap,e,h1,_,_,h2,_⟩:=own_rowN hr (by omega);dsimp only at e;have HE:=Lib.hid e;rw[e] at c1;simp at c1;have e1:IntKind.i64.wrap ((cs.length:Int)+1-1)=(cs.length:Int):=by
  rw[show (cs.length:Int)+1-1=cs.length by omega];exact IntWalk.i64_in _ (by omega)
 have e2:((cs.length:Int)+1-1)=(cs.length:Int):=by omega
 have e3:IntKind.i64.wrap (cs.length:Int)=(cs.length:Int):=IntWalk.i64_in _ (by omega);have hi1:cs.length<cs.length+1:=by omega
 have hi2:¬((cs.length:Int)+1≤(cs.length:Int)):=by omega
 have hi3:(cs.length:Int)<(cs.length:Int)+1:=by omega
 clear h hr e h2;generalize cs.length=n at *
 go_enter Tryz.func100,Tryz.ntmps100
 go_wp2
 go_quiet (fail)
 go_wp2
 go_ret
 exact⟨⟨g,cap,HE.out,rfl⟩,Below.ofDrew w _⟩
theorem a_holds (c:Cd) (w:World) :
  Calls Tryz.prog 138 #[.agg (cdCells c).toArray] w fun e w'=>e=.returned (.bool c.holds)∧Below w.heap.size w w':=by
 unfold cdCells Cd.holds
 go_enter Tryz.func138,Tryz.ntmps138
 go_wp2
 all_goals (go_ret;refine⟨by simp_all,(Below.refl _ w).alloc (Nat.le_refl _) _⟩)
theorem a_force_nil (h:SrcAt w κ pre.length (b,rv) (nm,[])) :
  Calls Tryz.prog 96 #[.pointer (some ⟨b,0,none⟩)] w fun e w'=>e=.returned (.bool true)∧Below w.heap.size w w':=by
 have hL:=a_last_nil h;clear h
 go_enter Tryz.func96,Tryz.ntmps96
 go_wp2_with fail
 refine hL.mono ?_;rintro e w' ⟨rfl,rfl⟩;go_wp2
 go_ret
 exact⟨rfl,Below.refl _ _⟩
theorem a_force_at {c:Cd} (h:SrcAt w κ pre.length (b,rv) (nm,cs++[c])) (hn:cs.length≤100000) :
  Calls Tryz.prog 96 #[.pointer (some ⟨b,0,none⟩)] w fun e w'=>e=.returned (.bool c.holds)∧Below w.heap.size w w':=by
 have hL:=a_last_at h hn;have hr:=h.row;rw[List.length_append,List.length_singleton] at hr;obtain⟨g,cap,e,h1,_,_,h2,_⟩:=own_rowN hr (by omega);have hc:∀i u,(cdCells c)[i]? = some u→w.cell? ⟨g,cs.length*6+i,none⟩=some u:=fun i u hu=>h2 _ _ (flat_get cdCells 6 (fun _=>rfl) (j:=cs.length) (by simp) hu)
 dsimp only at e;have HE:=Lib.hid e;have HC:=Lib.hid hc;have hg:g<w.heap.size:=‹g<w.heap.size›;clear h hr e h2 hc
 go_enter Tryz.func96,Tryz.ntmps96
 go_wp2_with fail
 refine hL.mono ?_;rintro e w1 ⟨⟨g',cap',e',rfl⟩,hb1⟩;obtain rfl:g=g':=by have:=HE.out.symm.trans e';simpa [Value.ownBlock] using (congrArg Value.ownBlock this)
 have hc:∀i u,(cdCells c)[i]? = some u→w1.cell? ⟨g,cs.length*6+i,none⟩=some u:=fun i u hu=>(hb1.cell (p:=⟨g,cs.length*6+i,none⟩) hg).trans (HC.out i u hu)
 have c0:=hc 0 _ rfl;have c1:=hc 1 _ rfl;have c2:=hc 2 _ rfl;have c3:=hc 3 _ rfl;have c4:=hc 4 _ rfl;have c5:=hc 5 _ rfl;rw[Nat.add_zero] at c0;clear hc;have hH:=a_holds c;unfold cdCells at hH
 go_wp2_with fail
 refine (hH _).mono ?_;rintro e w' ⟨rfl,hb⟩;go_wp2
 go_ret
 exact⟨rfl,hb1.trans (hb.mono hb1.size)⟩
end
end Go.Proofs.YtkkebmciiiajeaaGreatDoor
namespace Go.Bd
open Go.RowKit
def TwoS (w:World) (S:Nat→Prop) (v:Value) (l:List (ByteArray×ByteArray)):Prop :=
 ∃A c,v=.slice A l.length c∧l.length≤c∧∀(j:Nat) f,l[j]? = some f→∃b off,A=some ⟨b,off,none⟩∧S b∧w.cell? ⟨b,off+j*2,none⟩=some (.string f.1)∧w.cell? ⟨b,off+j*2+1,none⟩=some (.string f.2)
def atP (a:At):ByteArray×ByteArray:=(a.name,a.value)
def scP (a:Sc):ByteArray×ByteArray:=(a.name,a.text)
def AtS (w:World) (S:Nat→Prop) (v:Value) (l:List At):Prop:=TwoS w S v (l.map atP)
def ScS (w:World) (S:Nat→Prop) (v:Value) (l:List Sc):Prop:=TwoS w S v (l.map scP)
section
variable {w w':World} {S T:Nat→Prop} {v:Value} {l:List (ByteArray×ByteArray)}
theorem TwoS.chg (h:TwoS w S v l) (hc:Chg w w' T) (hT:∀k,S k→¬T k):TwoS w' S v l:=by
 obtain⟨A,c,h1,h2,h3⟩:=h;refine⟨A,c,h1,h2,fun j f hf=>?_⟩;obtain⟨b,off,h4,h5,h6,h7⟩:=h3 j f hf;exact⟨b,off,h4,h5,hc.cell (p:=⟨b,off+j*2,none⟩) (hT b h5) h6,hc.cell (p:=⟨b,off+j*2+1,none⟩) (hT b h5) h7⟩
theorem TwoS.below (h:TwoS w S v l) (hb:Below w.heap.size w w'):TwoS w' S v l:=h.chg (Chg.below hb (fun _=>False)) (fun _ _ h=>h)
theorem TwoS.nil (w:World) (S:Nat→Prop):TwoS w S (.slice none 0 0) []:=⟨none,0,rfl,Nat.le_refl _,fun j f h=>by simp at h⟩
theorem toL_eq (a b:ByteArray):(a.toList==b.toList)=decide (a=b):=by
 rw[Lib.toList_data,Lib.toList_data,Bool.eq_iff_iff];simp only[beq_iff_eq,decide_eq_true_eq];constructor
 ·intro h;cases a;cases b;simp at h;rw[h]
 ·intro h;rw[h]
end
def okV (c:UInt8):Bool:=decide (32≤c.toNat) && !(c==127)
theorem validB_eq (s:ByteArray):validB s.data.toList=(decide (s.size≤1024)&&s.data.toList.all okV):=by
 unfold validB;rw[size_lst];rfl
def idxA (l:List At) (n:ByteArray):Int:=if hasN (l.map (·.name)) n then (l.findIdx fun a=>decide (a.name=n):Nat) else -1
end Go.Bd
namespace Go.Proofs.YtkkebmciiiajeaaGreatDoor
open Go.RowKit Go.Bd
theorem all_take_ok (f:UInt8→Bool) (s:ByteArray) (k:Nat) (h:k<s.size):(s.data.toList.take (k+1)).all f=((s.data.toList.take k).all f&&f s[k]):=by
 have e:s[k]=s.data.toList[k]'(by simpa using h):=by
  first|rfl|simp[ByteArray.getElem_eq_getElem_data]
 rw[e,List.take_succ_eq_append_getElem (by simpa using h),List.all_append];simp
theorem all_not (f:UInt8→Bool) (s:ByteArray) (k:Nat) (h:k<s.size) (hf:f s[k]=false):s.data.toList.all f=false:=by
 have e:s[k]=s.data.toList[k]'(by simpa using h):=by
  first|rfl|simp[ByteArray.getElem_eq_getElem_data]
 rw[Bool.eq_false_iff];intro hA;rw[List.all_eq_true] at hA;have:=hA s[k] (by rw[e];exact List.getElem_mem _)
 rw[hf] at this;cases this
theorem valid_any (s:ByteArray) (w:World) (hs:s.size≤1000000000000):Calls Tryz.prog 60 #[.string s] w fun e w'=>e=.returned (.bool (validB s.data.toList))∧w=w':=by
 have HB:=Lib.hid (validB_eq s)
 go_enter Tryz.func60,Tryz.ntmps60
 go_wp2_with fail
 ·go_ret
  refine⟨ret_bool ?_,rfl⟩;rw[HB.out,decide_eq_false (by omega)];rfl
 ·have hl:s.size≤1024:=by omega
  go_loopg [9] s.size (fun gk i wr=>wr=w∧∃k:Nat,k+gk=s.size∧i=.int .i64 k∧Hid ((s.data.toList.take k).all okV=true))
  case atStart=>exact⟨rfl,0,by omega,rfl,Lib.hid rfl⟩
  case round =>
   obtain⟨rfl,k,hk,rfl,HA⟩:=hrel
   by_cases hlt:k<s.size
   ·by_cases h1:s[k].toNat<32
    ·have hn:Hid (okV s[k]=false):=Lib.hid (by unfold okV;rw[decide_eq_false (by omega)];rfl)
     go_wp2_with fail
     go_ret
     refine⟨ret_bool ?_,rfl⟩;rw[HB.out,all_not okV s k hlt hn.out,Bool.and_false]
    ·by_cases h2:s[k].toNat=127
     ·have hn:Hid (okV s[k]=false):=Lib.hid (by unfold okV;rw[u8_eq];simp[h2])
      go_wp2_with fail
      go_ret
      refine⟨ret_bool ?_,rfl⟩;rw[HB.out,all_not okV s k hlt hn.out,Bool.and_false]
     ·have h2i:((s[k].toNat:Int)==127)=false:=by rw[beq_eq_false_iff_ne];omega
      have hn:Hid (okV s[k]=true):=Lib.hid (by unfold okV;rw[u8_eq,decide_eq_true (by omega)];simp[h2])
      go_wp2_with fail
      go_roundg (gk-1)
      case measure=>omega
      case rel=>exact⟨rfl,k+1,by omega,by go_num,Lib.hid (by rw[all_take_ok okV s k hlt,HA.out,hn.out];rfl)⟩
   ·obtain rfl:k=s.size:=by omega
    go_wp2_with fail
    go_ret
    refine⟨ret_bool ?_,rfl⟩;have:=HA.out
    rw[List.take_of_length_le (by rw[size_lst];exact Nat.le_refl _)] at this;rw[HB.out,this,decide_eq_true hl];rfl
theorem named_any (n:ByteArray) (w:World):Calls Tryz.prog 45 #[.string n] w fun e w'=>e=.returned (.func (.func 81) #[] #[.pointer (some ⟨w.heap.size,0,none⟩)])∧w'=w.alloc (.cells #[.string n] 9):=by
 go_enter Tryz.func45,Tryz.ntmps45
 go_wp2
 go_ret
 exact⟨rfl,rfl⟩
theorem named1_any {w:World}{g:Nat}{n:ByteArray} (hg:Holds w g 9 #[.string n]) (a b:ByteArray) :
  Calls Tryz.prog 81 #[.agg #[.string a,.string b],.pointer (some ⟨g,0,none⟩)] w fun e w'=>e=.returned (.bool (decide (a=n)))∧w'=w.alloc (.cells #[.string a,.string b] 47):=by
 have c0:=(hg.alloc (.cells #[.string a,.string b] 47)).cell 0;simp at c0;have HE:=Lib.hid (toL_eq a n);clear hg
 go_enter Tryz.func81,Tryz.ntmps81
 go_wp2
 go_ret
 exact⟨ret_bool HE.out,rfl⟩
theorem find_none (f:Value) (w:World):Calls Tryz.prog 44 #[.slice none 0 0,f] w fun e w'=>e=.returned (.int .i64 (-1))∧w'=w:=by
 go_enter Tryz.func44,Tryz.ntmps44
 go_wp2_with fail
 go_loopg [9] 0 (fun _ i wr=>wr=w∧i=.int .i64 0)
 case atStart=>exact⟨rfl,rfl⟩
 case round =>
  obtain⟨rfl,rfl⟩:=hrel
  go_wp2_with fail
  go_ret
  exact⟨rfl,rfl⟩
theorem idx_hit {l:List At}{n:ByteArray}{k:Nat}{a:At} (hk:l[k]? = some a) (hn:a.name=n) (hno:∀b∈l.take k,b.name≠n):idxA l n=k:=by
 induction l generalizing k with
 | nil=>simp at hk
 | cons x l ih =>
  cases k with
  | zero =>
   cases hk
   simp[idxA,hasN,hn,List.findIdx_cons]
  | succ k =>
   have hx:x.name≠n:=hno x (by simp);have ih':=ih (k:=k) (by simpa using hk) (fun b hb=>hno b (by simp[hb]));unfold idxA at ih' ⊢;have h1:hasN (l.map (·.name)) n=true:=by
    by_cases h:hasN (l.map (·.name)) n=true
    ·exact h
    ·rw[if_neg h] at ih';omega
   rw[if_pos h1] at ih';have h2:hasN ((x::l).map (·.name)) n=true:=by
    unfold hasN at h1 ⊢;rw[List.map_cons,List.any_cons,h1,Bool.or_true]
   rw[if_pos h2,List.findIdx_cons];simp only[decide_eq_false hx,cond_false];omega
theorem idx_miss {l:List At}{n:ByteArray} (hno:∀b∈l,b.name≠n):idxA l n=-1:=by
 unfold idxA;rw[if_neg];intro h;unfold hasN at h;rw[List.any_eq_true] at h;obtain⟨x,hx,h1⟩:=h;obtain⟨b,hb,rfl⟩:=List.mem_map.1 hx;exact hno b hb (by simpa using h1)
theorem find_any {w:World}{S:Nat→Prop}{v:Value}{l:List At} (hl:AtS w S v l) (hS:∀k,S k→k<w.heap.size) (hn:l.length≤1000000000){g:Nat}{n:ByteArray} (hg:Holds w g 9 #[.string n]) :
  Calls Tryz.prog 44 #[v,.func (.func 81) #[] #[.pointer (some ⟨g,0,none⟩)]] w fun e w'=>e=.returned (.int .i64 (idxA l n))∧Below w.heap.size w w':=by
 obtain⟨A,c,rfl,hc,h1⟩:=hl;rw[List.length_map] at hc ⊢;obtain⟨nl,hnl⟩:∃nl,l.length=nl:=⟨_,rfl⟩;rw[hnl] at hc hn ⊢;have HN:=Lib.hid hnl;have H1:=Lib.hid h1;have HS:=Lib.hid hS;have HG:=Lib.hid hg;clear h1 hS hnl hg
 go_enter Tryz.func44,Tryz.ntmps44
 go_wp2_with fail
 go_loopg [9] nl (fun q i wr=>∃k:Nat,k+q=nl∧i=.int .i64 k∧Hid (Below w.heap.size w wr∧∀b∈l.take k,b.name≠n))
 case atStart=>exact⟨0,by omega,rfl,Lib.hid ⟨Below.refl _ _,fun b hb=>by simp at hb⟩⟩
 case round =>
  obtain⟨k,hk,rfl,HR⟩:=hrel
  by_cases hlt:k<nl
  ·obtain⟨a,ha⟩:∃a,l[k]? = some a:=⟨_,List.getElem?_eq_getElem (by rw[HN.out];exact hlt)⟩;obtain⟨b,off,rfl,hSb,q0,q1⟩:=H1.out k (atP a) (by rw[List.getElem?_map,ha];rfl);unfold atP at q0 q1;dsimp only at q0 q1;have r0:=(HR.out.1.cell (p:=⟨b,off+k*2,none⟩) (HS.out b hSb)).trans q0;have r1:=(HR.out.1.cell (p:=⟨b,off+k*2+1,none⟩) (HS.out b hSb)).trans q1;have HA:=Lib.hid ha;clear q0 q1 ha hSb;have hgg:=HG.out.below HR.out.1 HG.out.lt;have hX:∀W,Below wr.heap.size wr W→Calls Tryz.prog 81 #[.agg #[.string a.name,.string a.value],.pointer (some ⟨g,0,none⟩)] W fun e w'=>e=.returned (.bool (decide (a.name=n)))∧Below wr.heap.size wr w':=fun W hW=>(named1_any (hgg.below hW hgg.lt) a.name a.value).mono fun e w' h=>⟨h.1,by rw[h.2];exact hW.alloc hW.size _⟩
   have HX:=Lib.hid hX;clear hX hgg
   by_cases heq:a.name=n
   ·rw[decide_eq_true heq] at HX;have HQ:=Lib.hid heq;clear heq
    go_wp2_with (go_at_call 81;refine (HX.out _ ((Below.refl _ _).alloc (Nat.le_refl _) _)).mono ?_;rintro e w2 ⟨rfl,hb2⟩)
    go_ret
    rw[idx_hit HA.out HQ.out HR.out.2];exact⟨rfl,HR.out.1.trans (hb2.mono HR.out.1.size)⟩
   ·rw[decide_eq_false heq] at HX
    go_wp2_with (go_at_call 81;refine (HX.out _ ((Below.refl _ _).alloc (Nat.le_refl _) _)).mono ?_;rintro e w2 ⟨rfl,hb2⟩)
    go_roundg (gk-1)
    case measure=>omega
    case rel=>exact⟨k+1,by omega,by go_num,Lib.hid ⟨HR.out.1.trans (hb2.mono HR.out.1.size),fun b hb=>by
     rw[List.take_add_one,HA.out] at hb
     rcases List.mem_append.1 hb with h|h
     ·exact HR.out.2 b h
     ·rw[Option.toList_some,List.mem_singleton] at h;rw[h];exact heq⟩⟩
  ·obtain rfl:k=nl:=by omega
   go_wp2_with fail
   go_ret
   have hno:=HR.out.2;rw[List.take_of_length_le (by rw[HN.out];exact Nat.le_refl _)] at hno;rw[idx_miss hno];exact⟨rfl,HR.out.1⟩
theorem getA_idx {l:List At}{n:ByteArray}:(idxA l n=-1∧getA l n=none)∨∃(k:Nat) (a:At),idxA l n=k∧l[k]? = some a∧getA l n=some a.value∧a.name=n:=by
 induction l with
 | nil=>exact .inl ⟨rfl,rfl⟩
 | cons x l ih =>
  by_cases h:x.name=n
  ·right;refine⟨0,x,?_,rfl,by simp[getA,h],h⟩;exact idx_hit (l:=x::l) (k:=0) rfl h (fun b hb=>by simp at hb)
  ·have e:getA (x::l) n=getA l n:=by unfold getA;rw[List.find?_cons_of_neg (by simp[h])]
   rcases ih with ⟨h1,h2⟩|⟨k,a,h1,h2,h3,h4⟩
   ·left;refine⟨idx_miss fun b hb=>?_,e.trans h2⟩
    rcases List.mem_cons.1 hb with rfl|hb
    ·exact h
    ·intro hbn;unfold getA at h2;rw[Option.map_eq_none_iff,List.find?_eq_none] at h2;have:=h2 b hb
     simp[hbn] at this
   ·right;refine⟨k+1,a,?_,by simpa using h2,e.trans h3,h4⟩;unfold idxA at h1 ⊢;have h5:hasN (l.map (·.name)) n=true:=by
     by_cases h:hasN (l.map (·.name)) n=true
     ·exact h
     ·rw[if_neg h] at h1;omega
    have h6:hasN ((x::l).map (·.name)) n=true:=by
     unfold hasN at h5 ⊢;rw[List.map_cons,List.any_cons,h5,Bool.or_true]
    rw[if_pos h5] at h1;rw[if_pos h6,List.findIdx_cons];simp only[decide_eq_false h,cond_false];omega
def getV (o:Option ByteArray):Value:=match o with|some v=>.tuple #[.string v,.bool true]|none=>.tuple #[.string ⟨#[]⟩,.bool false]
theorem Get_any {w:World}{S:Nat→Prop}{v:Value}{l:List At} (hl:AtS w S v l) (hS:∀k,S k→k<w.heap.size) (hn:l.length≤1000000000) (n:ByteArray) :
  Calls Tryz.prog 21 #[v,.string n] w fun e w'=>e=.returned (getV (getA l n))∧Below w.heap.size w w':=by
 have hb1:=(Below.refl w.heap.size w).alloc (Nat.le_refl _) (.cells #[.string n] 9);have hF:=find_any (TwoS.below hl hb1) (fun k hk=>Nat.lt_of_lt_of_le (hS k hk) hb1.size) hn (Holds.new w 9 #[.string n]);obtain⟨A,c,rfl,hc,h1⟩:=hl;rw[List.length_map] at hc hF ⊢;have HF:=Lib.hid hF;clear hF
 rcases getA_idx (l:=l) (n:=n) with ⟨hi,hg⟩|⟨k,a,hi,ha,hg,hna⟩
 ·rw[hi] at HF;rw[hg];unfold getV;clear h1 hS
  go_enter Tryz.func21,Tryz.ntmps21
  go_wp2_with (first
   | (go_at_call 45;refine (named_any _ _).mono ?_;rintro e w2 ⟨rfl,rfl⟩)
   | (go_at_call 44;refine HF.out.mono ?_;rintro e w2 ⟨rfl,hb2⟩))
  go_ret2
  exact⟨rfl,hb1.trans (hb2.mono hb1.size)⟩
 ·rw[hi] at HF;rw[hg];unfold getV;obtain⟨b,off,rfl,hSb,q0,q1⟩:=h1 k (atP a) (by rw[List.getElem?_map,ha];rfl);unfold atP at q0 q1;dsimp only at q0 q1;have hkl:k<l.length:=(List.getElem?_eq_some_iff.1 ha).1;have hbw:=hS b hSb;clear h1 hS ha;have HQ:=Lib.hid q1;clear q0 q1
  go_enter Tryz.func21,Tryz.ntmps21
  go_wp2_with (first
   | (go_at_call 45;refine (named_any _ _).mono ?_;rintro e w2 ⟨rfl,rfl⟩)
   | (go_at_call 44;refine HF.out.mono ?_;rintro e w2 ⟨rfl,hb2⟩;have r1:=((hb1.trans (hb2.mono hb1.size)).cell (p:=⟨b,off+k*2+1,none⟩) hbw).trans HQ.out))
  go_ret2
  exact⟨rfl,hb1.trans (hb2.mono hb1.size)⟩
end Go.Proofs.YtkkebmciiiajeaaGreatDoor
namespace Go.Proofs.YtkkebmciiiajeaaGreatDoor
open Go.RowKit Go.Bd
theorem Find_any {w:World}{S:Nat→Prop}{v:Value}{l:List Sc} (hl:ScS w S v l) (hS:∀k,S k→k<w.heap.size) (hn:l.length≤1000000000) (n:ByteArray) :
  Calls Tryz.prog 22 #[v,.string n] w fun e w'=>e=.returned (getV (findS l n))∧Below w.heap.size w w':=by
 obtain⟨A,c,rfl,hc,h1⟩:=hl;rw[List.length_map] at hc ⊢;obtain⟨nl,hnl⟩:∃nl,l.length=nl:=⟨_,rfl⟩;rw[hnl] at hc hn ⊢;have HN:=Lib.hid hnl;have H1:=Lib.hid h1;have HS:=Lib.hid hS;clear h1 hS hnl
 go_enter Tryz.func22,Tryz.ntmps22
 go_wp2_with fail
 go_loopg [10] nl (fun q i wr=>∃k:Nat,k+q=nl∧i=.int .i64 k∧Hid (Below w.heap.size w wr∧∀b∈l.take k,b.name≠n))
 case atStart=>exact⟨0,by omega,rfl,Lib.hid ⟨Below.refl _ _,fun b hb=>by simp at hb⟩⟩
 case round =>
  obtain⟨k,hk,rfl,HR⟩:=hrel
  by_cases hlt:k<nl
  ·obtain⟨a,ha⟩:∃a,l[k]? = some a:=⟨_,List.getElem?_eq_getElem (by rw[HN.out];exact hlt)⟩;obtain⟨b,off,rfl,hSb,q0,q1⟩:=H1.out k (scP a) (by rw[List.getElem?_map,ha];rfl);unfold scP at q0 q1;dsimp only at q0 q1;have r0:=(HR.out.1.cell (p:=⟨b,off+k*2,none⟩) (HS.out b hSb)).trans q0;have r1:=(HR.out.1.cell (p:=⟨b,off+k*2+1,none⟩) (HS.out b hSb)).trans q1;have HA:=Lib.hid ha;clear q0 q1 ha hSb;obtain⟨an,han⟩:∃an,a.name=an:=⟨_,rfl⟩;obtain⟨tx,htx⟩:∃tx,a.text=tx:=⟨_,rfl⟩;rw[han] at r0;rw[htx] at r1;have HT:=hidH2 han htx;clear han htx
   by_cases heq:an=n
   ·have hE:(an.toList==n.toList)=true:=by rw[toL_eq,decide_eq_true heq]
    have HQ:=Lib.hid heq;clear heq
    go_wp2_with fail
    go_ret2
    have hf:findS l n=some tx:=by
     unfold findS;have h2:l.find? (fun s=>decide (s.name=n))=some a:=by
      rw[List.find?_eq_some_iff_append];refine⟨by simp[HT.out.1,HQ.out],l.take k,l.drop (k+1),?_,fun b hb=>by simpa using HR.out.2 b hb⟩;obtain⟨hk2,hk3⟩:=List.getElem?_eq_some_iff.1 HA.out;rw[←hk3,List.getElem_cons_drop,List.take_append_drop]
     rw[h2];exact congrArg some HT.out.2
    rw[hf];exact⟨rfl,HR.out.1.alloc HR.out.1.size _⟩
   ·have hE:(an.toList==n.toList)=false:=by rw[toL_eq,decide_eq_false heq]
    have HQ:=Lib.hid heq;clear heq
    go_wp2_with fail
    go_roundg (gk-1)
    case measure=>omega
    case rel=>exact⟨k+1,by omega,by go_num,Lib.hid ⟨HR.out.1.alloc HR.out.1.size _,fun b hb=>by
     rw[List.take_add_one,HA.out] at hb
     rcases List.mem_append.1 hb with h|h
     ·exact HR.out.2 b h
     ·rw[Option.toList_some,List.mem_singleton] at h;rw[h,HT.out.1];exact HQ.out⟩⟩
  ·obtain rfl:k=nl:=by omega
   go_wp2_with fail
   go_ret2
   have hno:=HR.out.2;rw[List.take_of_length_le (by rw[HN.out];exact Nat.le_refl _)] at hno;have hf:findS l n=none:=by
    unfold findS;rw[Option.map_eq_none_iff,List.find?_eq_none];exact fun b hb=>by simpa using hno b hb
   rw[hf];exact⟨rfl,HR.out.1⟩
theorem Below.drewA {w w':World} (h:Below w.heap.size w w') (n:Nat):Below w.heap.size w (w'.drewN n):=h.trans (((Chg.refl w' (fun _=>False)).drewN n).toBelow h.size (fun _ h=>h.elim))
theorem ltL (a b:ByteArray):Op.bytesLess a.toList b.toList=decide (a.data.toList<b.data.toList):=by
 rw[Lib.toList_data,Lib.toList_data,bytesLess_eq]
def someB (l:List At) (k:Nat):Bool:=(l.take k).all atB&&risesB (l.take k)
theorem rises_snoc:∀(l:List At) (a b:At),risesB (l++[a,b])=(risesB (l++[a])&&decide (a.name.data.toList<b.name.data.toList))
 | [],a,b=>by simp[risesB]
 | [x],a,b=>by simp[risesB]
 | x::y::l,a,b=>by
  have ih:=rises_snoc (y::l) a b
  show (decide (x.name.data.toList<y.name.data.toList)&&risesB ((y::l)++[a,b]))=((decide (x.name.data.toList<y.name.data.toList)&&risesB ((y::l)++[a]))&&_)
  rw[ih,Bool.and_assoc]
theorem rises_left:∀{l m:List At},risesB (l++m)=true→risesB l=true
 | [],_,_=>rfl
 | [_],_,_=>rfl
 | x::y::l,m,h=>by
  have h':(decide (x.name.data.toList<y.name.data.toList)&&risesB ((y::l)++m))=true:=h;rw[Bool.and_eq_true] at h'
  show (decide (x.name.data.toList<y.name.data.toList)&&risesB (y::l))=true
  rw[h'.1,rises_left h'.2];rfl
theorem check_all {l:List At}{k:Nat} (hk:someB l k=false):checkB l=false:=by
 unfold checkB;rw[Bool.eq_false_iff];intro h;rw[Bool.and_eq_true,Bool.and_eq_true] at h;have h1:(l.take k).all atB=true:=by
  rw[List.all_eq_true] at h ⊢;exact fun x hx=>h.1.2 x (List.mem_of_mem_take hx)
 have h2:risesB (l.take k)=true:=rises_left (m:=l.drop k) (by rw[List.take_append_drop];exact h.2);unfold someB at hk;rw[h1,h2] at hk;cases hk
theorem some_bad {l:List At}{k:Nat}{a:At} (h:l[k]? = some a) (ha:atB a=false):someB l (k+1)=false:=by
 unfold someB;rw[List.take_add_one,h,List.all_append];simp[ha]
theorem some_one {l:List At}{a:At} (h:l[0]? = some a):someB l 1=atB a:=by
 cases l with
 | nil=>simp at h
 | cons x l=>cases h;simp[someB,risesB]
theorem some_next {l:List At}{k:Nat}{a b:At} (ha:l[k]? = some a) (hb:l[k+1]? = some b) (hs:someB l (k+1)=true):someB l (k+2)=(atB b&&decide (a.name.data.toList<b.name.data.toList)):=by
 unfold someB at hs ⊢;have e1:l.take (k+1)=l.take k++[a]:=by rw[List.take_add_one,ha];rfl
 have e2:l.take (k+2)=l.take k++[a,b]:=by rw[List.take_add_one,hb,e1];simp
 rw[e1] at hs;rw[e2,rises_snoc];rw[Bool.and_eq_true] at hs;rw[hs.2,Bool.true_and];have h3:(l.take k++[a,b]).all atB=atB b:=by
  have h4:=hs.1;rw[List.all_append] at h4 ⊢;rw[Bool.and_eq_true] at h4;rw[h4.1];have h5:=h4.2;simp only[List.all_cons,List.all_nil,Bool.and_true] at h5 ⊢;rw[h5];simp
 rw[h3]
theorem Check_any {w:World}{S:Nat→Prop}{v:Value}{l:List At} (hl:AtS w S v l) (hS:∀k,S k→k<w.heap.size) (hn:l.length≤1000000000) (hz:∀a∈l,a.name.size≤100000∧a.value.size≤100000) :
  Calls Tryz.prog 32 #[v] w fun e w'=>e=.returned (.bool (checkB l))∧Below w.heap.size w w':=by
 obtain⟨A,c,rfl,hc,h1⟩:=hl;rw[List.length_map] at hc ⊢;obtain⟨nl,hnl⟩:∃nl,l.length=nl:=⟨_,rfl⟩;rw[hnl] at hc hn ⊢;have HN:=Lib.hid hnl;have H1:=Lib.hid h1;have HS:=Lib.hid hS;have HZ:=Lib.hid hz;clear h1 hS hnl hz
 by_cases hbig:64<nl
 ·have hb2:¬(nl:Int)≤64:=by omega
  have hb3:(64:Int)<nl:=by omega
  go_enter Tryz.func32,Tryz.ntmps32
  go_wp2_with fail
  go_ret
  refine⟨ret_bool ?_,Below.refl _ _⟩;unfold checkB;rw[HN.out,decide_eq_false (by omega)];rfl
 have hb2:¬(64:Int)<nl:=by omega
 go_enter Tryz.func32,Tryz.ntmps32
 go_wp2_with fail
 go_loopg [10] nl (fun q i wr=>∃k:Nat,k+q=nl∧i=.int .i64 k∧Hid (Below w.heap.size w wr∧someB l k=true))
 case atStart=>exact⟨0,by omega,rfl,Lib.hid ⟨Below.refl _ _,rfl⟩⟩
 case round =>
  obtain⟨k,hk,rfl,HR⟩:=hrel
  by_cases hlt:k<nl
  ·obtain⟨a,ha⟩:∃a,l[k]? = some a:=⟨_,List.getElem?_eq_getElem (by rw[HN.out];exact hlt)⟩;obtain⟨b,off,rfl,hSb,q0,q1⟩:=H1.out k (atP a) (by rw[List.getElem?_map,ha];rfl);unfold atP at q0 q1;dsimp only at q0 q1;have r0:=(HR.out.1.cell (p:=⟨b,off+k*2,none⟩) (HS.out b hSb)).trans q0;have r1:=(HR.out.1.cell (p:=⟨b,off+k*2+1,none⟩) (HS.out b hSb)).trans q1;have hza:=HZ.out a (List.mem_of_getElem? ha);have hbw:b<wr.heap.size:=Nat.lt_of_lt_of_le (HS.out b hSb) HR.out.1.size;have cn:=fun W=>name_any a.name W (by have:=hza.1;omega)
   have cv:=fun W=>valid_any a.value W (by omega)
   have hat:atB a=(nameB a.name.data.toList&&validB a.value.data.toList):=rfl;obtain⟨an,han⟩:∃an,a.name=an:=⟨_,rfl⟩;obtain⟨tx,htx⟩:∃tx,a.value=tx:=⟨_,rfl⟩;rw[han] at r0 cn hat;rw[htx] at r1 cv hat;obtain⟨bn,hbn⟩:∃bn,nameB an.data.toList=bn:=⟨_,rfl⟩;obtain⟨bv,hbv⟩:∃bv,validB tx.data.toList=bv:=⟨_,rfl⟩;rw[hbn] at cn hat;rw[hbv] at cv hat;have HA:=hidH4 ha han htx hat;have HC:=hidH2 cn cv;clear q0 q1 ha hSb han htx hbn hbv hza hat cn cv;cases bn with
   | false =>
    go_wp2_with (first
     | (go_at_call 52;refine (HC.out.1 _).mono ?_;rintro e w2 ⟨rfl,rfl⟩)
     | (go_at_call 60;refine (HC.out.2 _).mono ?_;rintro e w2 ⟨rfl,rfl⟩))
    go_ret
    exact⟨ret_bool (check_all (some_bad HA.out.1 HA.out.2.2.2)).symm,HR.out.1.alloc HR.out.1.size _⟩
   | true =>
    cases bv with
    | false =>
     go_wp2_with (first
      | (go_at_call 52;refine (HC.out.1 _).mono ?_;rintro e w2 ⟨rfl,rfl⟩)
      | (go_at_call 60;refine (HC.out.2 _).mono ?_;rintro e w2 ⟨rfl,rfl⟩))
     go_ret
     exact⟨ret_bool (check_all (some_bad HA.out.1 HA.out.2.2.2)).symm,HR.out.1.alloc HR.out.1.size _⟩
    | true =>
     cases k with
     | zero =>
      rw[Nat.zero_mul,Nat.add_zero] at r0 r1;rw[show ((0:Nat):Int)=0 from rfl]
      go_wp2_with (first
       | (go_at_call 52;refine (HC.out.1 _).mono ?_;rintro e w2 ⟨rfl,rfl⟩)
       | (go_at_call 60;refine (HC.out.2 _).mono ?_;rintro e w2 ⟨rfl,rfl⟩))
      refine wp_region_held_drew (S:=(fun w'=>True)) (by kernel_rfl) ?_ (fun hHeld0=>?_)
      ·(try dsimp only)
       all_goals exact trivial
      refine tkH 0 25 ?_;refine tkH 1 26 ?_;refine tkH 2 27 ?_;refine wpAnyH_take (i:=3) (oi:=⟨some 28,_,_,_,_,_⟩) (v:=undef) rfl (by kernel_rfl) (by kernel_rfl) (by kernel_rfl) (fun _ _ _ h=>h) (Or.inr ⟨by kernel_rfl,rfl⟩) (by assumption) ?_
      (try go_frame)
      refine wpAnyH_take (i:=4) (oi:=⟨some 29,_,_,_,_,_⟩) (v:=undef) rfl (by kernel_rfl) (by kernel_rfl) (by kernel_rfl) (fun _ _ _ h=>h) (Or.inr ⟨by kernel_rfl,rfl⟩) (by assumption) ?_
      (try go_frame)
      refine wpAnyH_take (i:=5) (oi:=⟨some 30,_,_,_,_,_⟩) (v:=undef) rfl (by kernel_rfl) (by kernel_rfl) (by kernel_rfl) (fun _ _ _ h=>h) (Or.inr ⟨by kernel_rfl,rfl⟩) (by assumption) ?_
      (try go_frame)
      refine wpAnyH_take (i:=6) (oi:=⟨some 31,_,_,_,_,_⟩) (v:=undef) rfl (by kernel_rfl) (by kernel_rfl) (by kernel_rfl) (fun _ _ _ h=>h) (Or.inr ⟨by kernel_rfl,rfl⟩) (by assumption) ?_
      (try go_frame)
      refine wpAnyH_take (i:=7) (oi:=⟨some 32,_,_,_,_,_⟩) (v:=undef) rfl (by kernel_rfl) (by kernel_rfl) (by kernel_rfl) (fun _ _ _ h=>h) (Or.inr ⟨by kernel_rfl,rfl⟩) (by assumption) ?_
      (try go_frame)
      refine wpAnyH_take (i:=8) (oi:=⟨some 33,_,_,_,_,_⟩) (v:=undef) rfl (by kernel_rfl) (by kernel_rfl) (by kernel_rfl) (fun _ _ _ h=>h) (Or.inr ⟨by kernel_rfl,rfl⟩) (by assumption) ?_
      (try go_frame)
      refine wpAnyH_take (i:=9) (oi:=⟨some 34,_,_,_,_,_⟩) (v:=undef) rfl (by kernel_rfl) (by kernel_rfl) (by kernel_rfl) (fun _ _ _ h=>h) (Or.inr ⟨by kernel_rfl,rfl⟩) (by assumption) ?_
      (try go_frame)
      refine wpAnyH_take (i:=10) (oi:=⟨some 35,_,_,_,_,_⟩) (v:=undef) rfl (by kernel_rfl) (by kernel_rfl) (by kernel_rfl) (fun _ _ _ h=>h) (Or.inr ⟨by kernel_rfl,rfl⟩) (by assumption) ?_
      (try go_frame)
      refine wpAnyH_take (i:=11) (oi:=⟨some 36,_,_,_,_,_⟩) (v:=undef) rfl (by kernel_rfl) (by kernel_rfl) (by kernel_rfl) (fun _ _ _ h=>h) (Or.inr ⟨by kernel_rfl,rfl⟩) (by assumption) ?_
      (try go_frame)
      refine tkH 12 37 ?_;refine wpAnyH_done (by kernel_rfl) ?_ _;go_wp2
      go_roundg (gk-1)
      case measure=>omega
      case rel=>exact⟨1,by omega,by go_num,Lib.hid ⟨by first|exact (HR.out.1.alloc HR.out.1.size _)|exact Below.drewA (HR.out.1.alloc HR.out.1.size _) 1,(some_one HA.out.1).trans HA.out.2.2.2⟩⟩
     | succ j =>
      obtain⟨p,hp⟩:∃p,l[j]? = some p:=⟨_,List.getElem?_eq_getElem (by rw[HN.out];omega)⟩;obtain⟨b',off',hbb,hSb',p0,p1⟩:=H1.out j (atP p) (by rw[List.getElem?_map,hp];rfl);injection hbb with hbb
      injection hbb with hb1 hb2'
      subst hb1 hb2';unfold atP at p0 p1;dsimp only at p0 p1;have s0:=(HR.out.1.cell (p:=⟨b,off+j*2,none⟩) (HS.out b hSb')).trans p0;obtain⟨pn,hpn⟩:∃pn,p.name=pn:=⟨_,rfl⟩;rw[hpn] at s0;have HP:=hidH2 hp hpn;clear p0 p1 hp hpn hSb';have e1:IntKind.i64.wrap ((j:Int)+1-1)=(j:Int):=by rw[show (j:Int)+1-1=j by omega];exact IntWalk.i64_in _ (by omega)
      have e2:((j:Int)+1-1)=(j:Int):=by omega
      have e3:IntKind.i64.wrap (j:Int)=(j:Int):=IntWalk.i64_in _ (by omega);have e4:¬((nl:Int)≤(j:Int)):=by omega
      have e5:(0:Int)<(j:Int)+1:=by omega
      have e6:(j:Int)<(nl:Int):=by omega
      have hlt2:=ltL pn an;obtain⟨bl,hbl⟩:∃bl,decide (pn.data.toList<an.data.toList)=bl:=⟨_,rfl⟩;rw[hbl] at hlt2;have HL:=Lib.hid hbl;clear hbl;cases bl with
      | false =>
       go_wp2_with (first
        | (go_at_call 52;refine (HC.out.1 _).mono ?_;rintro e w2 ⟨rfl,rfl⟩)
        | (go_at_call 60;refine (HC.out.2 _).mono ?_;rintro e w2 ⟨rfl,rfl⟩))
       go_quiet (fail)
       go_wp2
       go_ret
       refine⟨ret_bool (check_all (k:=j+2) ?_).symm,Below.drewA (HR.out.1.alloc HR.out.1.size _) _⟩;rw[some_next HP.out.1 HA.out.1 HR.out.2,HP.out.2,HA.out.2.1,HL.out,Bool.and_false]
      | true =>
       go_wp2_with (first
        | (go_at_call 52;refine (HC.out.1 _).mono ?_;rintro e w2 ⟨rfl,rfl⟩)
        | (go_at_call 60;refine (HC.out.2 _).mono ?_;rintro e w2 ⟨rfl,rfl⟩))
       go_quiet (fail)
       go_wp2
       go_roundg (gk-1)
       case measure=>omega
       case rel=>exact⟨j+2,by omega,by go_num,Lib.hid ⟨Below.drewA (HR.out.1.alloc HR.out.1.size _) _,by
        rw[some_next HP.out.1 HA.out.1 HR.out.2,HP.out.2,HA.out.2.1,HL.out,Bool.and_true];exact HA.out.2.2.2⟩⟩
  ·obtain rfl:k=nl:=by omega
   go_wp2_with fail
   go_ret
   refine⟨ret_bool ?_,HR.out.1⟩;have h:=HR.out.2;unfold someB at h;rw[List.take_of_length_le (by rw[HN.out];exact Nat.le_refl _)] at h;unfold checkB;rw[HN.out,decide_eq_true (by omega),Bool.true_and,h]
theorem allowed_any {w:World}{S:Nat→Prop}{v:Value}{l:List At} (hl:AtS w S v l) (hS:∀k,S k→k<w.heap.size) (hn:l.length≤1000000000) (hz:∀a∈l,a.name.size≤100000∧a.value.size≤100000) :
  Calls Tryz.prog 20 #[v] w fun e w'=>e=.returned (if checkB l then v else .slice none 0 0)∧Below w.heap.size w w':=by
 have hC:=Check_any hl hS hn hz;obtain⟨A,c,rfl,hc,h1⟩:=hl;rw[List.length_map] at hC ⊢;obtain⟨nl,hnl⟩:∃nl,l.length=nl:=⟨_,rfl⟩;obtain⟨b,hb⟩:∃b,checkB l=b:=⟨_,rfl⟩;rw[hnl,hb] at hC;rw[hnl,hb];have HC:=Lib.hid hC;clear hC h1 hS hz hb hnl hn hc;cases b
 all_goals
  go_enter Tryz.func20,Tryz.ntmps20
  go_wp2_with (go_at_call 32;refine HC.out.mono ?_;rintro e w2 ⟨rfl,hb⟩)
  go_ret
  exact⟨rfl,hb⟩
theorem diagA_info:(Tryz.prog.info? 51).map (fun i=>(i.zero,i.size,i.bytes))=some (some (.agg #[.string ⟨#[]⟩,.int .i64 0,.int .i64 0,.string ⟨#[]⟩]),4,48):=by kernel_rfl
theorem a_tell {w:World}{κ:Nat→Nat}{rb wm:Nat}{sv:Value}{v:Rv}{st:Ast}{stk:Stk} (h:ARd w κ rb wm sv v st stk) (f t:ByteArray) (no:Int) (k:Nat) (txt:ByteArray) (hl:st.diags.length≤1000000000) :
  Calls Tryz.prog 98 #[.pointer (some ⟨rb,0,none⟩),.agg #[.string f,.int .i64 no,.string t],.int .i64 (k:Int),.string txt] w fun e w'=>e=.returned (.tuple #[])∧∃κ' dv',ARd w' κ' rb wm sv { v with dv:=dv' } (st.tell ⟨f,no,t⟩ k txt) stk∧Mv w w' κ κ':=by
 obtain⟨ds,hds⟩:∃ds,st.diags=ds:=⟨_,rfl⟩;have hdg:=h.diags;rw[hds] at hdg hl;obtain⟨A,c,hdv,hlc⟩:=own_rowL hdg;obtain⟨i0,hi0,hz0,hz1,hz2⟩:=info_parts diagA_info;have hrl:=h.hold.lt;have hB1:=(Below.refl w.heap.size w).alloc (Nat.le_refl _) (.cells #[.string f,.int .i64 no,.string t] 156);have h1:=h.below hB1;have hX:=Holds.new w 156 #[.string f,.int .i64 no,.string t];have hM0:Mv w (w.alloc (.cells #[.string f,.int .i64 no,.string t] 156)) κ κ:=Mv.below hB1 κ;have hsz:(w.alloc (.cells #[.string f,.int .i64 no,.string t] 156)).heap.size=w.heap.size+1:=by simp
 obtain⟨n,hn⟩:∃n,w.heap.size=n:=⟨_,rfl⟩;have hlt0:=h.lt;rw[hn] at hX hsz hlt0;obtain⟨W1,hW1⟩:∃W1,w.alloc (.cells #[.string f,.int .i64 no,.string t] 156)=W1:=⟨_,rfl⟩;rw[hW1] at h1 hX hM0 hsz;have hdg1:=h1.diags;rw[hds,hdv] at hdg1;have d0:=hX.cell 0;have d1:=hX.cell 1;have d3:=h1.hold.cell 9;have f3:=h1.hold.free 9;rw[hdv] at d3;simp at d0 d1 d3;have hb1:rb<W1.heap.size:=h1.hold.lt;have hbx:n<W1.heap.size:=by omega
 have hkr:(Value.slice A ds.length c).ownBlock≠some rb:=fun e=>by have:=h.kG rb (by rw[hdv];exact e);have:=h.kR;omega
 have hkn:(Value.slice A ds.length c).ownBlock≠some n:=fun e=>by have h9:=h.kG n (by rw[hdv];exact e);have:=hlt0 n (by omega);omega
 have hrn:rb≠n:=by omega
 have HR:=hidH5 h1 hM0 hdv hds hdg1;have HZ:=hidH4 hi0 hz0 hz1 hz2;have HW1:=Lib.hid hW1;have HN:=Lib.hid hn;have HX:=Lib.hid hX;have hnW:w.heap.size≤n:=Nat.le_of_eq hn;have HSZ:=hidH2 hsz hlt0;clear h h1 hM0 hi0 hz0 hz1 hz2 hX hsz hdv hds hdg hdg1 hB1 hlt0;have e0:(W1.alloc (.cells #[.string f,.int .i64 no,.int .i64 (k:Int),.string txt] 51)).cell? ⟨n,0,none⟩=some (.string f):=by rw[World.cell?_alloc_lt _ _ _ hbx];exact d0
 have e1:(W1.alloc (.cells #[.string f,.int .i64 no,.int .i64 (k:Int),.string txt] 51)).cell? ⟨n,1,none⟩=some (.int .i64 no):=by rw[World.cell?_alloc_lt _ _ _ hbx];exact d1
 have e3:(W1.alloc (.cells #[.string f,.int .i64 no,.int .i64 (k:Int),.string txt] 51)).cell? ⟨rb,9,none⟩=some (.slice A ds.length c):=by rw[World.cell?_alloc_lt _ _ _ hb1];exact d3
 go_enter Tryz.func98,Tryz.ntmps98
 go_wp2
 (try rw[hW1])
 (try rw[hn])
 clear hW1 hn;refine wp_region_held_drew (S:=(fun w'=>w'.cell? ⟨n,0,none⟩=some (.string f)∧w'.cell? ⟨n,1,none⟩=some (.int .i64 no))) (by kernel_rfl) ?_ (fun hHeld0=>?_)
 ·(try dsimp only)
  first|exact⟨d0,d1⟩|exact⟨e0,e1⟩|exact⟨g0,g1⟩|exact⟨k0,k1⟩
 refine tkH 0 8 ?_;refine tkH 1 9 ?_;refine tkH 2 10 ?_;refine tkH 3 11 ?_;refine tkH 5 13 ?_;refine tkH 6 14 ?_;refine tkH 7 15 ?_;refine tkH 8 16 ?_;refine tkH 9 17 ?_;refine tkH 10 18 ?_;refine tkH 11 19 ?_;refine rdyH [4,12] ?_;refine AllReadyH.cons (o:=⟨some 12,_,_,_,_,_⟩) rfl (fun K hK=>?_) ?_
 ·skip
  go_simp;refine hK.out _ _ ?_ (fun hHeld1=>?_)
  ·(try dsimp only)
   first|exact⟨d0,d1⟩|exact⟨e0,e1⟩|exact⟨g0,g1⟩|exact⟨k0,k1⟩
  clear hK K hHeld0
  (try go_frame)
  refine rdyH [12] ?_;refine AllReadyH.cons (o:=⟨some 20,_,_,_,_,_⟩) rfl (fun K hK=>?_) AllReadyH.nil;go_simp;refine hK.out _ _ ?_ (fun hHeld2=>?_)
  ·(try dsimp only)
   first|exact⟨d0,d1⟩|exact⟨e0,e1⟩|exact⟨g0,g1⟩|exact⟨k0,k1⟩
  clear hK K hHeld1
  (try go_frame)
  refine rdyH [13] ?_;refine AllReadyH.cons (o:=⟨some 21,_,_,_,_,_⟩) rfl (fun K hK=>?_) AllReadyH.nil;refine step_append_lies _ (by rfl) _ _ _ (by rfl) 0 51 i0 _ 4 48 Tryz.underlying29 HZ.out.1 HZ.out.2.1 HZ.out.2.2.1 HZ.out.2.2.2 rfl (by omega) (.slice A ds.length c) ds.length (rowD ds) (by rfl) ((HR.out.2.2.2.2.alloc _).drew)
   ⟨W1.heap.size,0,none⟩ 1 1 [.string f,.int .i64 no,.int .i64 (k:Int),.string txt] (by rfl) (by rfl) (World.news_of_block (cs:=#[.string f,.int .i64 no,.int .i64 (k:Int),.string txt]) (t:=51) (fr:=(0,0)) (heap_alloc_new W1 _)) (by simp[Value.oneCell'])
   (by omega) (by unfold maxLen;omega) (by omega) (Nat.zero_le _) (W1.heap.size+1) (by simp) ?_
  intro g cap w2 ho2 hg2 hat2 hl2;have hC2:Chg W1 w2 (fun b=>(Value.slice A ds.length c).ownBlock=some b):=(((Chg.refl W1 _).alloc _).drew).trans (Chg.grown hg2) (fun _ _ h=>h.symm);have hgb:g≠rb:=fun e=>by
   rcases hat2 with h|h
   ·exact hkr (by rw[h,e])
   ·omega
  have hgn:g≠n:=fun e=>by
   rcases hat2 with h|h
   ·exact hkn (by rw[h,e])
   ·omega
  have hh2:=hC2.holds hkr HR.out.1.hold;have g0:=hC2.cell (p:=⟨n,0,none⟩) hkn d0;have g1:=hC2.cell (p:=⟨n,1,none⟩) hkn d1;have g3:=hC2.cell (p:=⟨rb,9,none⟩) hkr d3;have q3:=hh2.free 9;have k0:=cell_far (g:=rb) (i:=9) (j:=0) hrn (.slice (some ⟨g,0,none⟩) (ds.length+1) cap) g0;have k1:=cell_far (g:=rb) (i:=9) (j:=1) hrn (.slice (some ⟨g,0,none⟩) (ds.length+1) cap) g1;have HE:=hidH5 hC2 ho2 hat2 hh2 hl2;clear hC2 ho2 hat2 hh2 hg2 hl2;refine hK.out _ _ ?_ (fun hHeld3=>?_)
  ·(try dsimp only)
   first|exact⟨d0,d1⟩|exact⟨e0,e1⟩|exact⟨g0,g1⟩|exact⟨k0,k1⟩
  clear hK K hHeld2
  (try go_frame)
  refine tkH 14 22 ?_;refine tkH 15 23 ?_;refine rdyH [16] ?_;refine AllReadyH.cons rfl (fun K hK=>?_) AllReadyH.nil;go_simp;refine hK.out _ _ ?_ (fun hHeld4=>?_)
  ·(try dsimp only)
   first|exact⟨d0,d1⟩|exact⟨e0,e1⟩|exact⟨g0,g1⟩|exact⟨k0,k1⟩
  clear hK K hHeld3
  (try go_frame)
  refine wpAnyH_done (by kernel_rfl) ?_ _;go_wp2
  go_end0
  exact⟨rfl,_,_,tell_done HR.out.1 HR.out.2.2.1 HR.out.2.2.2.1 HE.out.1 HE.out.2.1 HE.out.2.2.1 HE.out.2.2.2.1 HE.out.2.2.2.2 hgb (d:=⟨f,no,k,txt⟩),HR.out.2.1.trans (tell_mv HR.out.1 HR.out.2.2.1 HR.out.2.2.2.1 HE.out.1 HE.out.2.2.1 HE.out.2.2.2.2)⟩
 refine AllReadyH.cons (o:=⟨some 20,_,_,_,_,_⟩) rfl (fun K hK=>?_) AllReadyH.nil;go_simp;refine hK.out _ _ ?_ (fun hHeld1=>?_)
 ·(try dsimp only)
  first|exact⟨d0,d1⟩|exact⟨e0,e1⟩|exact⟨g0,g1⟩|exact⟨k0,k1⟩
 clear hK K hHeld0
 (try go_frame)
 refine rdyH [4] ?_;refine AllReadyH.cons (o:=⟨some 12,_,_,_,_,_⟩) rfl (fun K hK=>?_) AllReadyH.nil;go_simp;refine hK.out _ _ ?_ (fun hHeld2=>?_)
 ·(try dsimp only)
  first|exact⟨d0,d1⟩|exact⟨e0,e1⟩|exact⟨g0,g1⟩|exact⟨k0,k1⟩
 clear hK K hHeld1
 (try go_frame)
 refine rdyH [13] ?_;refine AllReadyH.cons (o:=⟨some 21,_,_,_,_,_⟩) rfl (fun K hK=>?_) AllReadyH.nil;refine step_append_lies _ (by rfl) _ _ _ (by rfl) 0 51 i0 _ 4 48 Tryz.underlying29 HZ.out.1 HZ.out.2.1 HZ.out.2.2.1 HZ.out.2.2.2 rfl (by omega) (.slice A ds.length c) ds.length (rowD ds) (by rfl) ((HR.out.2.2.2.2.alloc _).drew)
  ⟨W1.heap.size,0,none⟩ 1 1 [.string f,.int .i64 no,.int .i64 (k:Int),.string txt] (by rfl) (by rfl) (World.news_of_block (cs:=#[.string f,.int .i64 no,.int .i64 (k:Int),.string txt]) (t:=51) (fr:=(0,0)) (heap_alloc_new W1 _)) (by simp[Value.oneCell'])
  (by omega) (by unfold maxLen;omega) (by omega) (Nat.zero_le _) (W1.heap.size+1) (by simp) ?_
 intro g cap w2 ho2 hg2 hat2 hl2;have hC2:Chg W1 w2 (fun b=>(Value.slice A ds.length c).ownBlock=some b):=(((Chg.refl W1 _).alloc _).drew).trans (Chg.grown hg2) (fun _ _ h=>h.symm);have hgb:g≠rb:=fun e=>by
  rcases hat2 with h|h
  ·exact hkr (by rw[h,e])
  ·omega
 have hgn:g≠n:=fun e=>by
  rcases hat2 with h|h
  ·exact hkn (by rw[h,e])
  ·omega
 have hh2:=hC2.holds hkr HR.out.1.hold;have g0:=hC2.cell (p:=⟨n,0,none⟩) hkn d0;have g1:=hC2.cell (p:=⟨n,1,none⟩) hkn d1;have g3:=hC2.cell (p:=⟨rb,9,none⟩) hkr d3;have q3:=hh2.free 9;have k0:=cell_far (g:=rb) (i:=9) (j:=0) hrn (.slice (some ⟨g,0,none⟩) (ds.length+1) cap) g0;have k1:=cell_far (g:=rb) (i:=9) (j:=1) hrn (.slice (some ⟨g,0,none⟩) (ds.length+1) cap) g1;have HE:=hidH5 hC2 ho2 hat2 hh2 hl2;clear hC2 ho2 hat2 hh2 hg2 hl2;refine hK.out _ _ ?_ (fun hHeld3=>?_)
 ·(try dsimp only)
  first|exact⟨d0,d1⟩|exact⟨e0,e1⟩|exact⟨g0,g1⟩|exact⟨k0,k1⟩
 clear hK K hHeld2
 (try go_frame)
 refine tkH 14 22 ?_;refine tkH 15 23 ?_;refine rdyH [16] ?_;refine AllReadyH.cons rfl (fun K hK=>?_) AllReadyH.nil;go_simp;refine hK.out _ _ ?_ (fun hHeld4=>?_)
 ·(try dsimp only)
  first|exact⟨d0,d1⟩|exact⟨e0,e1⟩|exact⟨g0,g1⟩|exact⟨k0,k1⟩
 clear hK K hHeld3
 (try go_frame)
 refine wpAnyH_done (by kernel_rfl) ?_ _;go_wp2
 go_end0
 exact⟨rfl,_,_,tell_done HR.out.1 HR.out.2.2.1 HR.out.2.2.2.1 HE.out.1 HE.out.2.1 HE.out.2.2.1 HE.out.2.2.2.1 HE.out.2.2.2.2 hgb (d:=⟨f,no,k,txt⟩),HR.out.2.1.trans (tell_mv HR.out.1 HR.out.2.2.1 HR.out.2.2.2.1 HE.out.1 HE.out.2.2.1 HE.out.2.2.2.2)⟩
end Go.Proofs.YtkkebmciiiajeaaGreatDoor
namespace Go.Bd
open Go.RowKit Go.Maps Go.WideMaps
def lkF (es:List Fe) (s:ByteArray) (z:Value):Value:=match findF es s with|some e=>e.v|none=>z
theorem FsMap.lookz {w:World}{P:Program}{K T E bm:Nat}{es:List Fe} (h:FsMap w P K bm es) (hk:P.underlying K=some .string) (ht:P.underlying T=some (.map K E)){z:Value} (hz:(zeroValue E).run P w=.ok z w){s:ByteArray} (hs:s.size≤maxLen) :
  (Instr.lookup T (.map (some bm)) (.string s) false).run P w=.ok (lkF es s z) w:=by
 unfold lkF;obtain⟨D,h1,_,_,h4⟩:=h;obtain⟨v,ps,hrun,hv⟩:=h1.lookup (string_keyed hk) ht hz rfl (keyOf_string_mk hk hs);rw[hrun];have e1:=h4 s (.held z);unfold nameL at e1;rw[e1] at hv;simp only[heldR,Option.some.injEq,Prod.mk.injEq] at hv
 congr 1
 split at hv<;>simp_all
theorem index_cut (c:UInt8):∀s:Bs,(Lib.index s [c]=-1∧cutB c s=none)∨∃k:Nat,Lib.index s [c]=k∧cutB c s=some (s.take k,s.drop (k+1))
 | []=>.inl ⟨rfl,rfl⟩
 | b::l=>by
  have e:Lib.index (b::l) [c]=if (c==b)=true then 0 else if Lib.index l [c] == -1 then -1 else Lib.index l [c]+1:=by
   show (if List.isPrefixOf [c] (b::l) then (0:Int) else _)=_
   simp[List.isPrefixOf]
  unfold cutB
  by_cases h:c=b
  ·right;refine⟨0,?_,?_⟩
   ·exact e.trans (if_pos (by simp[h]))
   ·rw[if_pos (by simp[h])];rfl
  ·have h1:¬(c==b)=true:=by simpa using h
   have h2:¬(b==c)=true:=by simpa using fun e=>h e.symm
   rw[if_neg h1] at e;rw[if_neg h2]
   rcases index_cut c l with ⟨h3,h4⟩|⟨k,h3,h4⟩
   ·left;rw[e,h3,h4];exact⟨by simp,rfl⟩
   ·right;refine⟨k+1,?_,?_⟩
    ·rw[e,h3,if_neg (by rw[beq_iff_eq];omega)];rfl
    ·rw[h4];rfl
theorem acut_none {c:UInt8}{s:Bs} (h:cutB c s=none):Lib.cut s [c]=(s,[],false):=by
 unfold Lib.cut
 rcases index_cut c s with ⟨h1,h2⟩|⟨k,h1,h2⟩
 ·rw[h1,if_neg (by omega)]
 ·rw[h] at h2;cases h2
theorem acut_some {c:UInt8}{s a t:Bs} (h:cutB c s=some (a,t)):Lib.cut s [c]=(a,t,true):=by
 unfold Lib.cut
 rcases index_cut c s with ⟨h1,h2⟩|⟨k,h1,h2⟩
 ·rw[h] at h2;cases h2
 ·rw[h] at h2;cases h2;rw[h1,if_pos (by omega)];simp
theorem pre_eq (c:UInt8) (hc:c≠0) (s:Bs):Lib.hasPrefix s [c]=(s.headD 0==c):=by
 unfold Lib.hasPrefix;cases s with
 | nil =>
  show false=((0:UInt8)==c)
  rw[eq_comm,beq_eq_false_iff_ne];exact fun e=>hc e.symm
 | cons b l =>
  show ((c==b)&&List.isPrefixOf [] l)=(b==c)
  rw[Bool.eq_iff_iff];constructor
  ·intro h;rw[Bool.and_eq_true,beq_iff_eq] at h;exact beq_iff_eq.2 h.1.symm
  ·intro h;rw[beq_iff_eq] at h;subst h;simp[List.isPrefixOf]
theorem trim_pre (c:UInt8) (s:Bs) (h:Lib.hasPrefix s [c]=true):Lib.trimPrefix s [c]=s.tail:=by
 unfold Lib.trimPrefix;rw[if_pos h];simp
theorem suf_eq (c:UInt8) (hc:c≠0) (s:Bs):Lib.hasSuffix s [c]=(s.getLastD 0==c):=by
 unfold Lib.hasSuffix;rw[Bool.eq_iff_iff,List.isSuffixOf_iff_suffix,beq_iff_eq]
 rcases List.eq_nil_or_concat s with h|⟨l,b,h⟩
 ·subst h;constructor
  ·intro h;have:=h.length_le;simp at this
  ·intro h;exact absurd h.symm hc
 ·subst h;rw[List.concat_eq_append,List.getLastD_concat];constructor
  ·rintro⟨t,ht⟩;have:=congrArg List.getLast? ht
   simp at this;exact this.symm
  ·rintro rfl;exact⟨l,rfl⟩
theorem trim_suf (c:UInt8) (s:Bs) (h:Lib.hasSuffix s [c]=true):Lib.trimSuffix s [c]=s.dropLast:=by
 unfold Lib.trimSuffix;rw[if_pos h,List.dropLast_eq_take];rfl
def signB:Nat→Bs
 | 0=>[]
 | 1=>[33]
 | 2=>[61]
 | _=>[33,61]
def splitV (r:Nat×Bs×Bs):Value:=.tuple #[.string (ofB (signB r.1)),.string (ofB r.2.1),.string (ofB r.2.2),.bool (nameB r.2.1)]
theorem cutB_le {c:UInt8}{s a b:Bs} (h:cutB c s=some (a,b)):a.length≤s.length∧b.length≤s.length:=by
 have:=cutB_len h
 omega
end Go.Bd
namespace Go.Proofs.YtkkebmciiiajeaaGreatDoor
open Go.RowKit Go.Bd
theorem set_under:Tryz.prog.underlying 81=some (.map 9 91):=by kernel_rfl
theorem set_zero (w:World):(zeroValue 91).run Tryz.prog w=.ok (.agg #[]) w:=by kernel_rfl
theorem results_tmp4 {fn:Func}{t u v x:Tmp} (h:fn.results=#[.tmp t,.tmp u,.tmp v,.tmp x]) (tmps:Array Value) (P:Program) (w:World) :
  (results fn tmps).run P w=.ok (.tuple #[tmps.getD t undef,tmps.getD u undef,tmps.getD v undef,tmps.getD x undef]) w:=by
 simp[results,h]
theorem set_look {w:World}{bm:Nat}{l:List ByteArray} (h:FsMap w Tryz.prog tTx bm (setFe l)) (n:ByteArray) (hn:n.size≤1000000000) :
  (Instr.lookup 81 (.map (some bm)) (.string n) true).run Tryz.prog w=.ok (.tuple #[.agg #[],.bool (hasN l n)]) w:=by
 rw[FsMap.lookz_ok h str_under set_under (set_zero w) (s:=n) (by unfold maxLen;omega),findF_set];cases hf:findF (setFe l) n with
 | none=>rfl
 | some e =>
  have:=List.mem_of_find?_eq_some hf
  unfold setFe at this;obtain⟨x,_,rfl⟩:=List.mem_map.1 this;rfl
theorem set_store {w:World}{bm:Nat}{l:List ByteArray} (h:FsMap w Tryz.prog tTx bm (setFe l)) (hu:Uniq (setFe l)) (n:ByteArray) (hn:n.size≤1000000000) (hl:l.length≤1000000000000) :
  ∃w',(Instr.mapUpdate 81 (.map (some bm)) (.string n) (.agg #[])).run Tryz.prog w=.ok () w'∧FsMap w' Tryz.prog tTx bm (setFe (putN l n))∧Chg w w' (fun b=>b=bm)∧w'.heap.size=w.heap.size∧Uniq (setFe (putN l n)):=by
 obtain⟨w',h1,h2,h3,h4⟩:=h.store hu str_under set_under (by rw[set_len];unfold maxLen;omega) ⟨n,.agg #[],[]⟩ (by show n.size≤_;unfold maxLen;omega);exact⟨w',h1,by rw[set_put];exact h2,h3,h4,by rw[set_put];exact hu.put _⟩
theorem a_ask {w:World}{κ:Nat→Nat}{rb wm:Nat}{sv:Value}{v:Rv}{st:Ast}{stk:Stk} (h:ARd w κ rb wm sv v st stk) (n:ByteArray) (hn:n.size≤1000000000) (ha:st.asked.length≤1000000000000) :
  Calls Tryz.prog 99 #[.pointer (some ⟨rb,0,none⟩),.string n] w fun e w'=>e=.returned (.tuple #[])∧ARd w' κ rb wm sv v (st.ask n) stk∧Mv w w' κ κ:=by
 have c5:=h.hold.cell 5;have c6:=h.hold.cell 6;simp at c5 c6;have hL:=set_look h.done n hn;have hB:=(Below.refl w.heap.size w).alloc (Nat.le_refl _) (.cells #[] 91);have h1:=h.below hB;have hrl:=h.hold.lt;have e6:=h1.hold.cell 6;simp at e6;obtain⟨w2,r2,m2,k2,z2,u2⟩:=set_store h1.asked h1.uA n hn ha;have hM:Rest (w.alloc (.cells #[] 91)) w2 κ 4 κ:=⟨k2.mono (fun k _ hk=>.inr (by rw[show k=v.am from hk];exact h.kA)),fun _ _=>rfl,fun k hk=>by rw[z2];exact h1.lt k hk⟩;have hh2:Holds w2 rb tAr #[sv,v.av,.map (some wm),v.ov,.int .i64 (st.count:Int),.map (some v.dm),.map (some v.am),.map (some v.bm),v.lv,v.dv,v.fv]:=k2.holds (fun e=>by have:=h.kA;have:=h.kR;rw[show rb=v.am from e] at this;omega) h1.hold;have HA:=hidH4 (h1.set_asked hM hh2 m2 u2) ((Mv.below hB κ).trans (hM.mv (by decide))) h1 (Mv.below hB κ);obtain⟨b,hb⟩:∃b,hasN st.done n=b:=⟨_,rfl⟩;rw[hb] at hL;have e:st.ask n=if b=true then st else { st with asked:=putN st.asked n }:=by unfold Ast.ask;rw[hb]
 rw[e];clear h h1 hM hh2 m2 u2 k2 hB hb e z2;cases b
 ·go_enter Tryz.func99,Tryz.ntmps99
  go_wp2
  go_end0
  exact⟨rfl,HA.out.1,HA.out.2.1⟩
 ·go_enter Tryz.func99,Tryz.ntmps99
  go_wp2
  go_end0
  exact⟨rfl,HA.out.2.2.1,HA.out.2.2.2⟩
theorem split_any (s:ByteArray) (w:World) (hs:s.size≤100000){m:Int} (hm:Glob m w) :
  Calls Tryz.prog 139 #[.string s] w fun e w'=>e=.returned (splitV (splitC s.data.toList))∧Below w.heap.size w w':=by
 have hp:=Tryz.strings_CutPrefix s ⟨#[33]⟩ w;have hc:=Tryz.strings_Cut s ⟨#[61]⟩ m w (by omega) hm.1;have e1:(⟨#[33]⟩:ByteArray).data.toList=[33]:=rfl;have e2:(⟨#[61]⟩:ByteArray).data.toList=[61]:=rfl;rw[e1] at hp;rw[e2] at hc;obtain⟨l,hl⟩:∃l,s.data.toList=l:=⟨_,rfl⟩;have hz:l.length≤100000:=by rw[←hl,size_lst];exact hs
 rw[hl] at hp hc ⊢;have hn:∀(b:Bs) w,b.length≤100000→Calls Tryz.prog 52 #[.string ⟨b.toArray⟩] w fun e w'=>e=.returned (.bool (nameB b))∧w=w':=fun b w h=>by
  have:=name_any ⟨b.toArray⟩ w (by have:=size_ofB b;unfold ofB at this;omega)
  simpa using this
 have HNm:=Lib.hid hn;clear hn hm e1 e2 hl
 by_cases h1:Lib.hasPrefix l [33]=true
 ·rw[h1,trim_pre 33 l h1] at hp;have hx:splitC l=(1,l.tail,[]):=by unfold splitC;rw[if_pos (by rw[←pre_eq 33 (by decide)];exact h1)]
  have hlt:l.tail.length≤100000:=by rw[List.length_tail];omega
  rw[hx];unfold splitV signB ofB;dsimp only;have HP:=Lib.hid hp;clear hp hc h1 hx
  go_enter Tryz.func139,Tryz.ntmps139
  go_wp2_with (first
   | (go_at_call 177;refine HP.out.mono ?_;rintro e w2 ⟨rfl,rfl⟩)
   | (go_at_call 52;refine (HNm.out _ _ hlt).mono ?_;rintro e w2 ⟨rfl,rfl⟩))
  (try simp only[Exit.inBlock,Exit.then]);refine bodyPost_ret (results_tmp4 rfl _ _ _) rfl ?_
  exact⟨rfl,Below.refl _ _⟩
 ·have h1':Lib.hasPrefix l [33]=false:=by simpa using h1
  rw[h1'] at hp;have hx0:¬(l.headD 0==33)=true:=by rw[←pre_eq 33 (by decide)];exact h1
  have HP:=Lib.hid hp;clear hp h1 h1';cases hcut:cutB 61 l with
  | none =>
   rw[acut_none hcut] at hc;have hx:splitC l=(0,l,[]):=by unfold splitC;rw[if_neg hx0,hcut]
   rw[hx];unfold splitV signB ofB;dsimp only at hc ⊢;have HC:=Lib.hid hc;clear hc hx0 hcut hx
   go_enter Tryz.func139,Tryz.ntmps139
   go_wp2_with (first
    | (go_at_call 177;refine HP.out.mono ?_;rintro e w2 ⟨rfl,rfl⟩)
    | (go_at_call 187;refine HC.out.mono ?_;rintro e w2 ⟨rfl,kq,rfl⟩)
    | (go_at_call 52;refine (HNm.out _ _ hz).mono ?_;rintro e w2 ⟨rfl,rfl⟩))
   (try simp only[Exit.inBlock,Exit.then]);refine bodyPost_ret (results_tmp4 rfl _ _ _) rfl ?_
   exact⟨rfl,Below.ofDrew _ kq⟩
  | some p =>
   obtain⟨a,t⟩:=p;have hlen:=cutB_le hcut;rw[acut_some hcut] at hc;have hx:splitC l=if (a.getLastD 0==33)=true then (3,a.dropLast,t) else (2,a,t):=by unfold splitC;rw[if_neg hx0,hcut]
   dsimp only at hc;rw[hx];have hsx:∀w,Calls Tryz.prog 188 #[.string ⟨a.toArray⟩,.string ⟨#[33]⟩] w fun e w'=>e=.returned (.tuple #[.string ⟨(Lib.trimSuffix a [33]).toArray⟩,.bool (Lib.hasSuffix a [33])])∧w'=w:=fun w=>by
    have:=Tryz.strings_CutSuffix ⟨a.toArray⟩ ⟨#[33]⟩ w (by have:=size_ofB a;unfold ofB at this;omega)
    simpa using this
   have HC:=Lib.hid hc;clear hc hx0 hcut hx
   by_cases h2:Lib.hasSuffix a [33]=true
   focus
    rw[if_pos (by rw[←suf_eq 33 (by decide)];exact h2)];rw[h2,trim_suf 33 a h2] at hsx;have hdl:a.dropLast.length≤100000:=by rw[List.length_dropLast];omega
    unfold splitV signB ofB;dsimp only;have HS:=Lib.hid hsx;clear hsx h2
   rotate_left
   focus
    have h2':Lib.hasSuffix a [33]=false:=by simpa using h2
    rw[if_neg (by rw[←suf_eq 33 (by decide)];exact h2)];rw[h2'] at hsx;have hdl:a.length≤100000:=by omega
    unfold splitV signB ofB;dsimp only;have HS:=Lib.hid hsx;clear hsx h2 h2'
   rotate_left
   all_goals
    go_enter Tryz.func139,Tryz.ntmps139
    go_wp2_with (first
     | (go_at_call 177;refine HP.out.mono ?_;rintro e w2 ⟨rfl,rfl⟩)
     | (go_at_call 187;refine HC.out.mono ?_;rintro e w2 ⟨rfl,kq,rfl⟩)
     | (go_at_call 188;refine (HS.out _).mono ?_;rintro e w2 ⟨rfl,rfl⟩)
     | (go_at_call 52;refine (HNm.out _ _ hdl).mono ?_;rintro e w2 ⟨rfl,rfl⟩))
    (try simp only[Exit.inBlock,Exit.then]);refine bodyPost_ret (results_tmp4 rfl _ _ _) rfl ?_
    exact⟨rfl,Below.ofDrew _ kq⟩
end Go.Proofs.YtkkebmciiiajeaaGreatDoor
namespace Go.Bd
open Go.RowKit
def askF1 (p:Nat):Value:=.func (.func 140) #[] #[.pointer (some ⟨p,0,none⟩)]
def askF2 (p:Nat):Value:=.func (.func 141) #[] #[.pointer (some ⟨p,0,none⟩)]
def askF3 (p q r:Nat):Value:=.func (.func 142) #[] #[.pointer (some ⟨p,0,none⟩),.pointer (some ⟨q,0,none⟩),.pointer (some ⟨r,0,none⟩)]
def askF4 (p q r:Nat):Value:=.func (.func 143) #[] #[.pointer (some ⟨p,0,none⟩),.pointer (some ⟨q,0,none⟩),.pointer (some ⟨r,0,none⟩)]
def asksF (p q r:Nat):List Fe:=[⟨⟨#[]⟩,askF1 p,[]⟩,⟨⟨#[33]⟩,askF2 p,[]⟩,⟨⟨#[61]⟩,askF3 p q r,[]⟩,⟨⟨#[33,61]⟩,askF4 p q r,[]⟩]
def askV (o:Option (ByteArray×Bool)):Value:=match o with|none=>.tuple #[.string ⟨#[]⟩,.bool false,.int .i64 4]|some p=>.tuple #[.string p.1,.bool p.2,.int .i64 0]
theorem split_sign (s:Bs):(splitC s).1<4:=by
 unfold splitC;split
 ·omega
 ·split
  ·omega
  ·split<;>omega
theorem split_le (s:Bs):(splitC s).2.1.length≤s.length∧(splitC s).2.2.length≤s.length:=by
 unfold splitC;split
 ·simp
 ·split
  ·simp
  ·rename_i a t h;have:=cutB_le h
   split
   ·simp only[List.length_dropLast];omega
   ·exact this
end Go.Bd
namespace Go.Proofs.YtkkebmciiiajeaaGreatDoor
open Go.RowKit Go.Bd
section
variable {w:World} {p q r:Nat} {b:Bool} {v t:ByteArray}
theorem ask1_any (hp:Holds w p 4 #[.bool b]):Calls Tryz.prog 140 #[.pointer (some ⟨p,0,none⟩)] w fun e w'=>e=.returned (.bool b)∧w=w':=by
 have c0:=hp.cell 0;simp at c0;clear hp
 go_enter Tryz.func140,Tryz.ntmps140
 go_wp2
 go_ret
 exact⟨rfl,rfl⟩
theorem ask2_any (hp:Holds w p 4 #[.bool b]):Calls Tryz.prog 141 #[.pointer (some ⟨p,0,none⟩)] w fun e w'=>e=.returned (.bool !b)∧w=w':=by
 have c0:=hp.cell 0;simp at c0;clear hp
 go_enter Tryz.func141,Tryz.ntmps141
 go_wp2
 go_ret
 exact⟨rfl,rfl⟩
theorem ask3_any (hp:Holds w p 4 #[.bool b]) (hq:Holds w q 9 #[.string v]) (hr:Holds w r 9 #[.string t]):Calls Tryz.prog 142 #[.pointer (some ⟨p,0,none⟩),.pointer (some ⟨q,0,none⟩),.pointer (some ⟨r,0,none⟩)] w fun e w'=>e=.returned (.bool (b&&decide (v=t)))∧w=w':=by
 have c0:=hp.cell 0;have c1:=hq.cell 0;have c2:=hr.cell 0;simp at c0 c1 c2;have hE:=toL_eq v t;generalize decide (v=t)=d at *;clear hp hq hr;cases b<;>cases d <;>
 ·go_enter Tryz.func142,Tryz.ntmps142
  go_wp2
  go_ret
  exact⟨rfl,rfl⟩
theorem ask4_any (hp:Holds w p 4 #[.bool b]) (hq:Holds w q 9 #[.string v]) (hr:Holds w r 9 #[.string t]):Calls Tryz.prog 143 #[.pointer (some ⟨p,0,none⟩),.pointer (some ⟨q,0,none⟩),.pointer (some ⟨r,0,none⟩)] w fun e w'=>e=.returned (.bool !(b&&decide (v=t)))∧w=w':=by
 have c0:=hp.cell 0;have c1:=hq.cell 0;have c2:=hr.cell 0;simp at c0 c1 c2;have hE:=toL_eq v t;generalize decide (v=t)=d at *;clear hp hq hr;cases b<;>cases d <;>
 ·go_enter Tryz.func143,Tryz.ntmps143
  go_wp2
  go_ret
  exact⟨rfl,rfl⟩
end
theorem asks_under:Tryz.prog.underlying 214=some (.map 9 27):=by kernel_rfl
theorem asks_zero (w:World):(zeroValue 27).run Tryz.prog w=.ok .nilFunc w:=by kernel_rfl
theorem asks_map (p q r:Nat) (w:World):∃w4,FsMap w4 Tryz.prog 9 w.heap.size (asksF p q r)∧Below w.heap.size w w4∧w4.heap.size=w.heap.size+1∧∃w1 w2 w3,
  (Instr.mapUpdate 214 (.map (some w.heap.size)) (.string ⟨#[]⟩) (askF1 p)).run Tryz.prog (w.alloc (.map #[] 0))=.ok () w1 ∧
  (Instr.mapUpdate 214 (.map (some w.heap.size)) (.string ⟨#[33]⟩) (askF2 p)).run Tryz.prog w1=.ok () w2 ∧
  (Instr.mapUpdate 214 (.map (some w.heap.size)) (.string ⟨#[61]⟩) (askF3 p q r)).run Tryz.prog w2=.ok () w3 ∧
  (Instr.mapUpdate 214 (.map (some w.heap.size)) (.string ⟨#[33,61]⟩) (askF4 p q r)).run Tryz.prog w3=.ok () w4:=by
 have hm0:=FsMap.new w Tryz.prog 9;obtain⟨w1,r1,m1,c1,s1⟩:=hm0.store (T:=214) List.Pairwise.nil str_under asks_under (by simp[maxLen]) ⟨⟨#[]⟩,askF1 p,[]⟩ (by show (0:Nat)≤maxLen;unfold maxLen;omega);have u1:Uniq (putF [] ⟨⟨#[]⟩,askF1 p,[]⟩):=Uniq.put List.Pairwise.nil _;obtain⟨w2,r2,m2,c2,s2⟩:=m1.store (T:=214) u1 str_under asks_under (by simp[maxLen,putF,delF]) ⟨⟨#[33]⟩,askF2 p,[]⟩ (by show (1:Nat)≤maxLen;unfold maxLen;omega);have u2:=Uniq.put u1 ⟨⟨#[33]⟩,askF2 p,[]⟩;have hes2:putF (putF [] ⟨⟨#[]⟩,askF1 p,[]⟩) ⟨⟨#[33]⟩,askF2 p,[]⟩=[⟨⟨#[]⟩,askF1 p,[]⟩,⟨⟨#[33]⟩,askF2 p,[]⟩]:=by
  simp[putF,delF,show (⟨#[]⟩:ByteArray)≠⟨#[33]⟩ by decide]
 rw[hes2] at m2 u2;obtain⟨w3,r3,m3,c3,s3⟩:=m2.store (T:=214) u2 str_under asks_under (by simp[maxLen]) ⟨⟨#[61]⟩,askF3 p q r,[]⟩ (by show (1:Nat)≤maxLen;unfold maxLen;omega);have u3:=Uniq.put u2 ⟨⟨#[61]⟩,askF3 p q r,[]⟩;have hes3:putF [⟨⟨#[]⟩,askF1 p,[]⟩,⟨⟨#[33]⟩,askF2 p,[]⟩] ⟨⟨#[61]⟩,askF3 p q r,[]⟩=[⟨⟨#[]⟩,askF1 p,[]⟩,⟨⟨#[33]⟩,askF2 p,[]⟩,⟨⟨#[61]⟩,askF3 p q r,[]⟩]:=by
  simp[putF,delF,show (⟨#[]⟩:ByteArray)≠⟨#[33]⟩ by decide,show (⟨#[]⟩:ByteArray)≠⟨#[61]⟩ by decide,show (⟨#[33]⟩:ByteArray)≠⟨#[61]⟩ by decide]
 rw[hes3] at m3 u3;obtain⟨w4,r4,m4,c4,s4⟩:=m3.store (T:=214) u3 str_under asks_under (by simp[maxLen]) ⟨⟨#[33,61]⟩,askF4 p q r,[]⟩ (by show (2:Nat)≤maxLen;unfold maxLen;omega);have hes4:putF [⟨⟨#[]⟩,askF1 p,[]⟩,⟨⟨#[33]⟩,askF2 p,[]⟩,⟨⟨#[61]⟩,askF3 p q r,[]⟩] ⟨⟨#[33,61]⟩,askF4 p q r,[]⟩=asksF p q r:=by
  simp[putF,delF,asksF,show (⟨#[]⟩:ByteArray)≠⟨#[33,61]⟩ by decide,show (⟨#[33]⟩:ByteArray)≠⟨#[33,61]⟩ by decide,show (⟨#[61]⟩:ByteArray)≠⟨#[33,61]⟩ by decide]
 rw[hes4] at m4;rw[World.size_alloc] at s1;have hall:Chg (w.alloc (.map #[] 0)) w4 (fun b=>b=w.heap.size):=((c1.trans c2 (fun _ _ h=>h)).trans c3 (fun _ _ h=>h)).trans c4 (fun _ _ h=>h);exact⟨w4,m4,((Below.refl w.heap.size w).alloc (Nat.le_refl _) _).trans (hall.toBelow (by simp) (fun k hk=>Nat.le_of_eq hk.symm)),by omega,w1,w2,w3,r1,r2,r3,r4⟩
theorem Ask_any {w:World}{S:Nat→Prop}{v:Value}{l:List At} (hl:AtS w S v l) (hS:∀k,S k→k<w.heap.size) (hn:l.length≤1000000000) (s:ByteArray) (hs:s.size≤100000){m:Int} (hm:Glob m w) :
  Calls Tryz.prog 97 #[v,.string s] w fun e w'=>e=.returned (askV (askC l s.data.toList))∧Below w.heap.size w w':=by
 have hmm:=@run_makeMap Tryz.prog;have hSp:=split_any s w hs hm;have hk4:=split_sign s.data.toList;have hle:=split_le s.data.toList;obtain⟨R,hR⟩:∃R,splitC s.data.toList=R:=⟨_,rfl⟩;obtain⟨k,nb,tb⟩:=R;rw[hR] at hSp hk4 hle;have hA:askC l s.data.toList=if nameB nb then some (ofB nb,holdsC k (getA l (ofB nb)) tb) else none:=by unfold askC;rw[hR]
 rw[hA];unfold splitV at hSp;dsimp only at hSp hk4 hle;have HS:=Lib.hid hSp;obtain⟨A,c,rfl,hc,h1⟩:=hl;have hl':AtS w S (.slice A (l.map atP).length c) l:=⟨A,c,rfl,hc,h1⟩;rw[List.length_map] at hc hl' ⊢;have HL:=hidH2 hl' hS;clear hSp hA hR h1 hl' hS hm;cases hnb:nameB nb with
 | false =>
  rw[hnb] at HS;rw[if_neg (by decide)];unfold askV;clear hnb hmm
  go_enter Tryz.func97,Tryz.ntmps97
  go_wp2_with (first
   | (go_at_call 139;refine HS.out.mono ?_;rintro e w1 ⟨rfl,hb1⟩))
  go_ret3
  exact⟨rfl,hb1.alloc hb1.size _⟩
 | true =>
  rw[hnb] at HS;rw[if_pos rfl];unfold askV;dsimp only;obtain⟨hv,hhv⟩:∃hv,holdsC k (getA l (ofB nb)) tb=hv:=⟨_,rfl⟩;rw[hhv];have HV:=Lib.hid hhv;clear hnb hhv
  go_enter Tryz.func97,Tryz.ntmps97
  go_wp2_with fail
  refine HS.out.mono ?_;rintro e w1 ⟨rfl,hb1⟩;have hb2:=hb1.alloc hb1.size (.cells #[.string (ofB tb)] 9);have hG:=Get_any (TwoS.below HL.out.1 hb2) (fun k hk=>Nat.lt_of_lt_of_le (HL.out.2 k hk) hb2.size) hn (ofB nb);have t0:=Holds.new w1 9 #[.string (ofB tb)];have HB:=Lib.hid hb2;have HG:=Lib.hid hG;clear hb1 hb2 hG
  go_wp2_with fail
  refine HG.out.mono ?_;rintro e w2 ⟨rfl,hb3⟩;have t1:=t0.below hb3 t0.lt;have hB2:Below w.heap.size w w2:=HB.out.trans (hb3.mono HB.out.size);have HT:=hidH2 t1 hB2;clear hb3 t0 t1 hB2 HG HB;obtain⟨bs,vs,hgv⟩:∃bs vs,getV (getA l (ofB nb))=.tuple #[.string vs,.bool bs]∧holdsC k (getA l (ofB nb)) tb=holdsC k (if bs then some vs else none) tb:=by
   cases getA l (ofB nb) with
   | none=>exact⟨false,⟨#[]⟩,rfl,rfl⟩
   | some x=>exact⟨true,x,rfl,rfl⟩
  have hev:=HV.out;rw[hgv.2] at hev;rw[hgv.1];clear hgv HV;have b1:=(Below.refl w2.heap.size w2).alloc (Nat.le_refl _) (.cells #[.string vs] 9);have b2:=b1.alloc b1.size (.cells #[.bool bs] 4);have x0:=(Holds.new w2 9 #[.string vs]).alloc (.cells #[.bool bs] 4);have x1:=Holds.new (w2.alloc (.cells #[.string vs] 9)) 4 #[.bool bs];have x2:=HT.out.1.below b2 HT.out.1.lt;obtain⟨W,hW⟩:∃W,(w2.alloc (.cells #[.string vs] 9)).alloc (.cells #[.bool bs] 4)=W:=⟨_,rfl⟩;have hsz:W.heap.size=w2.heap.size+2:=by rw[←hW];simp
  rw[World.size_alloc] at x1;rw[hW] at b2 x0 x1 x2;obtain⟨n1,hn1⟩:∃n1,w1.heap.size=n1:=⟨_,rfl⟩;obtain⟨n2,hn2⟩:∃n2,w2.heap.size=n2:=⟨_,rfl⟩;have hB2:=HT.out.2;rw[hn1] at x2;rw[hn2] at x0 x1 b1 b2 hsz;obtain⟨w4,m4,k4,z4,q1,q2,q3,r1,r2,r3,r4⟩:=asks_map (n2+1) n2 n1 W;rw[hsz] at m4 k4 z4 r1 r2 r3 r4;have y0:=x0.below k4 (by omega);have y1:=x1.below k4 (by omega);have y2:=x2.below k4 (by have:=x2.lt;omega);have hlk:∀(t:ByteArray) (u:Value),t.size≤10→lkF (asksF (n2+1) n2 n1) t .nilFunc=u→(Instr.lookup 214 (.map (some (n2+2))) (.string t) false).run Tryz.prog w4=.ok u w4:=fun t u ht hu=>by
   rw[FsMap.lookz m4 str_under asks_under (asks_zero w4) (s:=t) (by unfold maxLen;omega),hu]
  have hBf:Below w.heap.size w w4:=hB2.trans (((b2.trans (k4.mono (by omega)))).mono (by have:=hB2.size;omega));have HH:=hidH2 hBf hev;have HL2:=Lib.hid hlk;have HY:=hidH3 y0 y1 y2;have hk4':=hk4;clear hlk m4 k4 z4 y0 y1 y2 x0 x1 x2 b1 b2 hB2 hBf hev HT HL hk4;unfold askF1 at r1;unfold askF2 at r2;unfold askF3 at r3;unfold askF4 at r4
  rcases (show k=0∨k=1∨k=2∨k=3 by omega) with rfl|rfl|rfl|rfl
  ·have hq:=HL2.out (ofB (signB 0)) (askF1 (n2+1)) (by decide) (by simp[lkF,findF,asksF,signB,ofB]);unfold askF1 at hq;have hc:=ask1_any HY.out.2.1;have HC:=Lib.hid hc;clear hc
   go_wp2_with (go_at_call 140;refine HC.out.mono ?_;rintro e w5 ⟨rfl,rfl⟩)
   go_ret3
   refine⟨?_,HH.out.1⟩;rw[←HH.out.2];cases bs<;>rfl
  ·have hq:=HL2.out (ofB (signB 1)) (askF2 (n2+1)) (by decide) (by simp[lkF,findF,asksF,signB,ofB]);unfold askF2 at hq;have hc:=ask2_any HY.out.2.1;have HC:=Lib.hid hc;clear hc
   go_wp2_with (go_at_call 141;refine HC.out.mono ?_;rintro e w5 ⟨rfl,rfl⟩)
   go_ret3
   refine⟨?_,HH.out.1⟩;rw[←HH.out.2];cases bs<;>rfl
  ·have hq:=HL2.out (ofB (signB 2)) (askF3 (n2+1) n2 n1) (by decide) (by simp[lkF,findF,asksF,signB,ofB]);unfold askF3 at hq;have hc:=ask3_any HY.out.2.1 HY.out.1 HY.out.2.2;have HC:=Lib.hid hc;clear hc
   go_wp2_with (go_at_call 142;refine HC.out.mono ?_;rintro e w5 ⟨rfl,rfl⟩)
   go_ret3
   refine⟨?_,HH.out.1⟩;rw[←HH.out.2];cases bs<;>simp[holdsC]
  ·have hq:=HL2.out (ofB (signB 3)) (askF4 (n2+1) n2 n1) (by decide) (by simp[lkF,findF,asksF,signB,ofB]);unfold askF4 at hq;have hc:=ask4_any HY.out.2.1 HY.out.1 HY.out.2.2;have HC:=Lib.hid hc;clear hc
   go_wp2_with (go_at_call 143;refine HC.out.mono ?_;rintro e w5 ⟨rfl,rfl⟩)
   go_ret3
   refine⟨?_,HH.out.1⟩;rw[←HH.out.2];cases bs<;>simp[holdsC]
end Go.Proofs.YtkkebmciiiajeaaGreatDoor
namespace Go.Bd
open Go.RowKit
theorem run_append_nil {P:Program}{w:World} (base:Nat) (t ty e:TypeId) (i:TypeInfo) (size:Nat) (ht:P.underlying t=some (.slice e)) (hi:P.info? e=some i)
  (v:Value) (n:Nat) (xs:List Value) (hown:w.ownsRow base e size v n xs) (c:Nat) :
  (Builtin.append_ #[t,t] ty #[v,.slice none 0 c]).run P w=.ok v w:=by
 rcases hown.2 with ⟨rfl,rfl⟩|⟨g,cap,cur,rfl,_,_,hnc,_⟩
 ·simp[Builtin.append_,run_underlying ht,sizeOf,typeInfo,hi,Builtin.lenOf,Builtin.firstCells]
 ·simp[Builtin.append_,run_underlying ht,sizeOf,typeInfo,hi,Builtin.lenOf,Builtin.firstCells,hnc,storeCells]
theorem run_append_all {P:Program} (w:World) (t ty:TypeId) (base:Nat) (e:TypeId) (i:TypeInfo) (z:Value) (size bytes:Nat) (ht:P.underlying t=some (.slice e)) (hi:P.info? e=some i) (hz:i.zero=some z)
  (hsize:i.size=size) (hby:i.bytes=bytes) (hzs:z.cells.size=size) (hsz:0<size)
  (v:Value) (n:Nat) (xs:List Value) (hown:w.ownsRow base e size v n xs)
  (A:Option Addr) (m c:Nat) (news:List Value) (hl:news.length=m*size) (hnews:∀j u,news[j]? = some u→∃ad,A=some ad∧w.cell? (ad.add j)=some u) (h1:∀u∈news,u.oneCell'=true)
  (h63:n+m≤maxLen) (hbytes:(n+m)*bytes≤140737488355328) (hbase:base≤w.heap.size) :
  ∃A' cap w',(Builtin.append_ #[t,t] ty #[v,.slice A m c]).run P w=.ok (.slice A' (n+m) cap) w' ∧
   w'.ownsRow base e size (.slice A' (n+m) cap) (n+m) (xs++news)∧w.grownBy w' v.ownBlock∧∀k,(Value.slice A' (n+m) cap).ownBlock=some k→v.ownBlock=some k∨k=w.heap.size:=by
 have form:∀(v':Value) (W:World) (q:Nat) (xs':List Value),W.ownsRow base e size v' q xs'→∃A' cap,v'=.slice A' q cap:=fun v' W q xs' h=>by
  rcases h.2 with ⟨rfl,h0⟩|⟨g,cap,cur,rfl,_⟩
  ·exact⟨none,0,by rw[h0]⟩
  ·exact⟨_,_,rfl⟩
 cases A with
 | some ad =>
  obtain⟨v',w',hr,h2,h3,_,h5⟩:=run_append_own_at (P:=P) w base t ty e i z size bytes ht hi hz hsize hby hzs hsz v n xs hown ad m c news hl (fun j u hj=>by obtain⟨_,e1,e2⟩:=hnews j u hj;cases e1;exact e2) h1 h63 hbytes hbase;obtain⟨A',cap,rfl⟩:=form _ _ _ _ h2;refine⟨A',cap,w',hr,h2,h3,fun k hk=>?_⟩
  rcases h5 with h5|h5
  ·exact .inl (h5 ▸ hk)
  ·exact .inr (by rw[h5] at hk;cases hk;rfl)
 | none =>
  have hm:news=[]:=by
   cases news with
   | nil=>rfl
   | cons u r=>obtain⟨_,e1,_⟩:=hnews 0 u rfl;cases e1
  subst hm;have hm0:m=0:=by
   rw[List.length_nil] at hl
   rcases Nat.mul_eq_zero.1 hl.symm with h|h<;>omega
  subst hm0;obtain⟨A',cap,rfl⟩:=form v w n xs hown;exact⟨A',cap,w,run_append_nil base t ty e i size ht hi _ n xs hown c,by rw[List.append_nil];exact hown,World.grownBy.refl _ _,fun k hk=>.inl hk⟩
theorem wpList_append_all {P:Program}{w:World}{ops:Array Oper}{rest:List Oper}{o:Oper}{a:Act}{Q:Exit→Act→World→Prop} (hgd:Region.wanted o (yielded ops a.tmps)=true) (s x:Operand) (t:TypeId)
  (ho:o.op=.call { callee:=.builtin .append,args:=#[s,x],argTypes:=#[t,t] })
  (base:Nat) (e:TypeId) (i:TypeInfo) (z:Value) (size bytes:Nat) (ht:P.underlying t=some (.slice e)) (hi:P.info? e=some i) (hz:i.zero=some z)
  (hsize:i.size=size) (hby:i.bytes=bytes) (hzs:z.cells.size=size) (hsz:0<size)
  (v:Value) (n:Nat) (xs:List Value) (hs:a.eval s=v) (hown:w.ownsRow base e size v n xs)
  (A:Option Addr) (m c:Nat) (news:List Value) (hx:a.eval x=.slice A m c) (hl:news.length=m*size) (hnews:∀j u,news[j]? = some u→∃ad,A=some ad∧w.cell? (ad.add j)=some u) (h1:∀u∈news,u.oneCell'=true)
  (q:Nat) (hq:n+m=q) (zs:List Value) (hzq:xs++news=zs) (h63:q≤maxLen) (hbytes:q*bytes≤140737488355328) (hbase:base≤w.heap.size)
  (h:∀A' cap w',w'.ownsRow base e size (.slice A' q cap) q zs→w.grownBy w' v.ownBlock→(∀k,(Value.slice A' q cap).ownBlock=some k→v.ownBlock=some k∨k=w.heap.size)→wpList P ops Q rest (a.put o.dst (.slice A' q cap)) w'):wpList P ops Q (o::rest) a w:=by
 subst hq;subst hzq;refine wpList_step fun K hK=>?_
 rw[if_pos hgd];obtain⟨A',cap,w',hr,h2,h3,h4⟩:=run_append_all (P:=P) w t o.type base e i z size bytes ht hi hz hsize hby hzs hsz v n xs hown A m c news hl hnews h1 h63 hbytes hbase;unfold Oper.wp execOp;simp only[ho,resolve,invoke,builtin,Sem.run_bind,Sem.run_pure,Result.andThen_ok,List.map_toArray,List.map_cons,List.map_nil,hs,hx,hr];exact hK _ _ (h A' cap w' h2 h3 h4)
end Go.Bd
