/-What is proved here:several parts. what the texts of a seat share:the library's table of powers of ten and its decimal texts,hashes as values,bytes turned into strings. Conditions:the table reads as its initialiser lays it. · a builder of strings that the call has made takes a string. Condition:what it holds is shorter than 2^47 bytes. · a builder of strings takes a byte;a hash's text in hexadecimal,by the program. Condition:what the builder holds is shorter than 2^47 bytes. -/
import Derived.Test.YtpdlbmieciabmaaGreatDoorPk03
import Derived.Test.YtpdlbmieciabmaaGreatDoorPk04
import Derived.Test.YtpdlbmieciabmaaGreatDoorShelf
import Derived.Stop.BytesEq
import Derived.Lib.Builder
import Derived.Lib.AppendStr
import Derived.Lib.Strings
import Derived.Deep.MidRow
namespace Go.Proofs.YtpdlbmieciabmaaGreatDoor
open Go.RowKit Go.Shelf
def pow10:String:= "internal/strconv.uint64pow10"
def Tab(w:World):Prop:=Lib.TabIs Tryz.prog w pow10 .u64 Lib.pow10Tab
theorem Tab.only{S:Nat→Prop}{w w' :World}(h:Tab w)(ho:Only S w w')(hS:∀k,S k→3<k):Tab w' :=by
 have hg:Tryz.prog.globalNamed pow10=some 3:=by kernel_rfl
 unfold Tab Lib.TabIs World.var? at *
 rw[hg] at h⊢
 simp only[Option.bind_some] at h⊢
 have hlt:3<w.heap.size:=by
  rcases Nat.lt_or_ge 3 w.heap.size with h1|h1
  ·exact h1
  ·rw[Array.getElem?_eq_none h1] at h;cases h
 rw[ho.block _ hlt (fun hs=>by have:=hS _ hs;omega)]
 exact h
theorem Tab.none{w w' :World}(h:Tab w)(ho:Only NoneOf w w'):Tab w' :=h.only ho (fun _ h=>h.elim)
theorem only_grows(w:World)(k:Nat)(os:Array Obj):Only NoneOf w (Sort.grow (w.drewN k) os):=
 ⟨rfl,rfl,rfl,by simp[Sort.grow],fun i hi _=>by
  show(w.heap++os)[i]? =w.heap[i]?
  rw[Array.getElem?_append_left hi]⟩
theorem itoa_any(n:Int)(h0: -9223372036854775808≤n)(h1:n≤9223372036854775807)(w:World)(ht:Tab w):Calls Tryz.prog 66 #[.int .i64 n] w (RetStr (Lib.itoa n) w):=
 (Tryz.strconv_Itoa n h0 h1 w ht).mono fun e w' h=>by
  obtain⟨rfl,k,os,rfl⟩:=h
  exact RetStr.mk (by simp) (only_grows w k os)
def hv(l:List UInt8):Value:= .agg (l.map bv).toArray
theorem shaL_len(l:List UInt8):(shaL l).length =32:=by simp[shaL,be4]
theorem grown_of_only{W W' :World}(ho:Only NoneOf W W'):W.grownBy W' none:=ho.grownBy (fun _ h=>h.elim)
theorem b_xor(x y:UInt8):bits .xor .u8 (x.toNat:Int) (y.toNat:Int)=((x^^^y).toNat :Int):=by
 have e:∀z:UInt8,BitVec.ofInt 8 (z.toNat:Int)=z.toBitVec:=fun z=>by simp
 show IntKind.u8.wrap ((BitVec.ofInt 8 (x.toNat:Int)^^^BitVec.ofInt 8 (y.toNat:Int)).toNat :Int)=_
 rw[e,e]
 have h:(x.toBitVec^^^y.toBitVec).toNat =(x^^^y).toNat :=rfl
 rw[h]
 have key:∀z:UInt8,IntKind.u8.wrap (z.toNat:Int)=(z.toNat:Int):=fun z=>by
  have:=z.toNat_lt
  simp[IntKind.wrap,IntKind.bits,IntKind.signed]
  omega
 exact key _
theorem blk_bytes{w:World}{g:Nat}{t:TypeId}{l:List UInt8}(h:Blk w g t (l.map bv).toArray):BytesAt w g 0 l:=fun j x hx=>by
 rw[Nat.zero_add,h.cell,List.getElem?_toArray,List.getElem?_map,hx];rfl
theorem there_only{S:Nat→Prop}{w w' :World}{g o n:Nat}(h:w.there g o n)(ho:Only S w w')(hg:¬S g):w'.there g o n:=fun j hj=>by
 obtain⟨h1,h2⟩:=h j hj
 obtain⟨v,hv⟩:=Option.isSome_iff_exists.1 h1
 have hb:=ho.block g (World.block_lt_of_cell? w _ hv) hg
 exact⟨by rw[World.cell?_of_block (a:=⟨g,o+j,none⟩) hb];exact h1,by rw[World.frozen?_of_block (a:=⟨g,o+j,none⟩) hb];exact h2⟩
theorem run_back{W:World}{g n cap:Nat}{l:List UInt8}(hb:BytesAt W g 0 l)(hl:l.length=n):(convert 100 9 (.slice (some ⟨g,0,none⟩) n cap)).run Tryz.prog W= .ok (.string ⟨l.toArray⟩) W:=by
 subst hl
 exact run_convert_bytes_back (P:=Tryz.prog) W 100 9 5 ⟨g,0,none⟩ cap l Tryz.underlying100 Tryz.underlying5 Tryz.underlying9 (fun j hj=>by
  rw[Addr.add_mid]
  exact hb j _ (List.getElem?_eq_getElem hj))
theorem wp_world{P:Program}{c:Code}{Q:Exit→Act→World→Prop}{a:Act}{w w' :World}(h:w' =w)(hh:Code.wp P c Q a w'):Code.wp P c Q a w:=h▸hh
theorem extract_from(s:ByteArray)(k:Nat):(s.extract k s.size).data.toList =s.data.toList.drop k:=by
 rw[ByteArray.data_extract,Array.toList_extract,List.extract_eq_take_drop,List.take_of_length_le (by simp)]
theorem bytes_eq{t:ByteArray}{l:List UInt8}(h:t.data.toList=l):t=⟨l.toArray⟩:=by
 subst h;rfl
theorem size_u8(w:World):(sizeOf 5).run Tryz.prog w= .ok 1 w:=by kernel_rfl
theorem eql_hash(xs ys:List UInt8)(hx:xs.length=32)(hy:ys.length=32)(w:World):(binOp .eql 68 (.agg (xs.map bv).toArray) (.agg (ys.map bv).toArray)).run Tryz.prog w= .ok (.bool (xs==ys)) w:=
 run_eql_bytes w 68 5 32 Tryz.underlying68 Tryz.underlying5 size_u8 xs ys hx hy
end Go.Proofs.YtpdlbmieciabmaaGreatDoor
namespace Go.Proofs.YtpdlbmieciabmaaGreatDoor
open Go.RowKit Go.Shelf
theorem size_builder:(Tryz.prog.info? 102).map (·.size)=some 2:=by kernel_rfl
end Go.Proofs.YtpdlbmieciabmaaGreatDoor
namespace Go.Proofs.YtpdlbmieciabmaaGreatDoor
open Go.RowKit Go.Shelf
theorem hexL_snoc(l:List UInt8)(c:UInt8):hexL (l++[c])=hexL l++[hexC (c.toNat/16)]++[hexC (c.toNat%16)]:=by
 induction l with
 |nil=>rfl
 |cons x l ih=>simp only[List.cons_append,hexL,ih]
abbrev hexD:ByteArray:=⟨#[48,49,50,51,52,53,54,55,56,57,97,98,99,100,101,102]⟩
theorem hexD_idx:∀n:Nat,(h:n<hexD.size)→hexD[n]'h=hexC n:=by decide
end Go.Proofs.YtpdlbmieciabmaaGreatDoor
