/-What is proved here:several parts. lines of words and numbers,and texts of such lines,in plain Lean:a text tells its lines;no program in sight. No conditions. · texts of lines (a word,and numbers) tell their lines,in plain Lean;no program in sight. No conditions. · the contents of bids (lots with values,rebates) and their texts in plain Lean:a text tells its content;no program in sight. No conditions. · rows of words and cursors over texts of lines in plain Lean:what is cut off a text,and how a number is read;no program in sight. No conditions. · what a cursor that passes words,strings,numbers and lists of numbers has read,in plain Lean:lots with values,lots with prices and rebates;no program in sight. No conditions. · lists of numbers,hexadecimal texts,price texts and bids off a cursor,in plain Lean;no program in sight. No conditions. · the contents of bids that the laws make from numbers,in plain Lean:they are right without wild names,and short;no program in sight. No conditions. · readers that split a text into rows and write it again,in plain Lean;no program in sight. No conditions. · what the tests of a cursor tell,in plain Lean;no program in sight. No conditions. -/
import Derived.Test.YtpdlbmieciabmaaGreatDoorPk03
import Derived.Lib.ParseIntBTie
import Derived.Lib.SplitLaws
namespace Go.Proofs.YtpdlbmieciabmaaGreatDoor
def wordsN(l:List Int):List UInt8:=l.flatMap (fun n=>32::Lib.itoa n)
def lineL(word:List UInt8)(l:List Int):List UInt8:=word++wordsN l++[10]
structure Bd where
 bidder:Int
 qt:ByteArray
 qc:List Int
 pt:ByteArray
 pc:List Int
def wBid:List UInt8:=[98,105,100]
def wQuality:List UInt8:=[113,117,97,108,105,116,121]
def wPrice:List UInt8:=[112,114,105,99,101]
def encB(b:Bd):List UInt8:=lineL wBid [b.bidder]++lineL wQuality b.qc++lineL (hexL b.qt.data.toList) []++lineL wPrice b.pc++lineL (hexL b.pt.data.toList) []
end Go.Proofs.YtpdlbmieciabmaaGreatDoor
namespace Go.Proofs.YtpdlbmieciabmaaGreatDoor
abbrev Ln:=List UInt8×List Int
def lineOf(x:Ln):List UInt8:=lineL x.1 x.2
def textG(p:List Ln):List UInt8:=p.flatMap lineOf
def mid(c:UInt8):Bool:=c !=32&&c !=10
def LineOk(x:Ln):Prop:=(∀c∈x.1,mid c=true)∧∀n∈x.2,In n
theorem itoa_mid{n:Int}(h:In n):∀c∈Lib.itoa n,mid c=true:=fun c hc=>by
 have h1:=itoa_ne h (b:=32) (by decide) c hc
 have h2:=itoa_ne h (b:=10) (by decide) c hc
 unfold mid
 simp[h1,h2]
theorem mid_sep:∀{a a' :List UInt8} {x x' :UInt8} {l l' :List UInt8},(∀c∈a,mid c=true)→(∀c∈a',mid c=true)→mid x=false→mid x' =false→a++x::l=a' ++x' ::l'→a=a'∧x=x'∧l=l'
 |[],[],x,x',l,l',_,_,_,_,h=>by
  simp only[List.nil_append,List.cons.injEq] at h
  exact⟨rfl,h.1,h.2⟩
 |[],d::a',x,x',_,_,_,h2,h3,_,h=>by
  simp only[List.nil_append,List.cons_append,List.cons.injEq] at h
  have:=h2 d (by simp)
  rw[←h.1,h3] at this
  cases this
 |d::a,[],x,x',_,_,h1,_,_,h4,h=>by
  simp only[List.nil_append,List.cons_append,List.cons.injEq] at h
  have:=h1 d (by simp)
  rw[h.1,h4] at this
  cases this
 |d::a,d' ::a',x,x',_,_,h1,h2,h3,h4,h=>by
  simp only[List.cons_append,List.cons.injEq] at h
  obtain⟨e1,e2⟩:=mid_sep (fun c hc=>h1 c (by simp[hc])) (fun c hc=>h2 c (by simp[hc])) h3 h4 h.2
  exact⟨by rw[h.1,e1],e2⟩
theorem mid10:mid 10=false:=rfl
theorem wordsN_cons(n:Int)(ns:List Int):wordsN (n::ns)=32::(Lib.itoa n++wordsN ns):=by unfold wordsN;simp
theorem words_head(ns:List Int)(r:List UInt8):∃x l,wordsN ns++10::r=x::l∧mid x=false:=by
 cases ns with
 |nil=>exact⟨10,r,rfl,rfl⟩
 |cons n ns=>exact⟨32,Lib.itoa n++wordsN ns++10::r,by rw[wordsN_cons];simp,rfl⟩
theorem words_inj:∀{ns ms:List Int} {r r' :List UInt8},(∀n∈ns,In n)→(∀n∈ms,In n)→wordsN ns++10::r=wordsN ms++10::r'→ns=ms∧r=r'
 |[],[],_,_,_,_,h=>by
  simp only[wordsN,List.flatMap_nil,List.nil_append,List.cons.injEq,true_and] at h
  exact⟨rfl,h⟩
 |[],m::ms,_,_,_,_,h=>by
  rw[wordsN_cons] at h
  simp[wordsN] at h
 |n::ns,[],_,_,_,_,h=>by
  rw[wordsN_cons] at h
  simp[wordsN] at h
 |n::ns,m::ms,r,r',h1,h2,h=>by
  rw[wordsN_cons,wordsN_cons] at h
  simp only[List.cons_append,List.cons.injEq,true_and,List.append_assoc] at h
  obtain⟨x,l,e1,hx⟩:=words_head ns r
  obtain⟨x',l',e2,hx'⟩:=words_head ms r'
  rw[e1,e2] at h
  obtain⟨a1,a2,a3⟩:=mid_sep (itoa_mid (h1 n (by simp))) (itoa_mid (h2 m (by simp))) hx hx' h
  obtain⟨b1,b2⟩:=words_inj (fun k hk=>h1 k (by simp[hk])) (fun k hk=>h2 k (by simp[hk])) (e1.trans ((by rw[a2,a3]:x::l=x' ::l').trans e2.symm))
  exact⟨by rw[b1,itoa_inj (h1 n (by simp)) (h2 m (by simp)) a1],b2⟩
theorem line_inj{x y:Ln}{r r' :List UInt8}(hx:LineOk x)(hy:LineOk y)(h:lineOf x++r=lineOf y++r'):x=y∧r=r' :=by
 obtain⟨w,ns⟩:=x
 obtain⟨w',ms⟩:=y
 unfold lineOf lineL at h
 simp only[List.append_assoc,List.cons_append,List.nil_append] at h
 obtain⟨a,l,e1,ha⟩:=words_head ns r
 obtain⟨a',l',e2,ha'⟩:=words_head ms r'
 rw[e1,e2] at h
 obtain⟨c1,c2,c3⟩:=mid_sep hx.1 hy.1 ha ha' h
 obtain⟨d1,d2⟩:=words_inj hx.2 hy.2 (e1.trans ((by rw[c2,c3]:a::l=a' ::l').trans e2.symm))
 exact⟨by rw[Prod.mk.injEq];exact⟨c1,d1⟩,d2⟩
theorem textG_cons(x:Ln)(p:List Ln):textG (x::p)=lineOf x++textG p:=by unfold textG;simp
theorem textG_app(p q:List Ln):textG (p++q)=textG p++textG q:=by unfold textG;simp
theorem textG_snoc(p:List Ln)(x:Ln):textG (p++[x])=textG p++lineOf x:=by unfold textG;simp
theorem lineOf_ne(x:Ln):lineOf x≠[]:=by unfold lineOf lineL;simp
theorem textG_pre:∀{q p:List Ln} {r:List UInt8},(∀x∈q,LineOk x)→(∀x∈p,LineOk x)→textG p=textG q++r→∃p',p=q++p'∧r=textG p'
 |[],p,r,_,_,h=>⟨p,rfl,h.symm⟩
 |x::q,[],r,_,_,h=>by
  rw[textG_cons] at h
  have h2:=congrArg List.length h
  have h3:0<(lineOf x).length :=List.length_pos_iff.2 (lineOf_ne x)
  simp only[textG,List.flatMap_nil,List.length_nil,List.length_append] at h2
  omega
 |x::q,y::p,r,hq,hp,h=>by
  rw[textG_cons,textG_cons,List.append_assoc] at h
  obtain⟨e1,e2⟩:=line_inj (hp y (by simp)) (hq x (by simp)) h
  obtain⟨p',e3,e4⟩:=textG_pre (fun z hz=>hq z (by simp[hz])) (fun z hz=>hp z (by simp[hz])) e2
  exact⟨p',by rw[e1,e3];rfl,e4⟩
theorem textG_inj{q p:List Ln}(hq:∀x∈q,LineOk x)(hp:∀x∈p,LineOk x)(h:textG p=textG q):p=q:=by
 obtain⟨p',e1,e2⟩:=textG_pre hq hp (h.trans (List.append_nil _).symm)
 cases p' with
 |nil=>rw[e1,List.append_nil]
 |cons y p' =>
  rw[textG_cons] at e2
  exact absurd (congrArg List.length e2) (by have:=List.length_pos_iff.2 (lineOf_ne y);simp only[List.length_nil,List.length_append];omega)
def IsTx(s:List UInt8)(p:List Ln):Prop:=(∀x∈p,LineOk x)∧s=textG p
theorem IsTx.inj{s:List UInt8}{p q:List Ln}(h:IsTx s p)(k:IsTx s q):p=q:=textG_inj k.1 h.1 (h.2.symm.trans k.2)
end Go.Proofs.YtpdlbmieciabmaaGreatDoor
namespace Go.Proofs.YtpdlbmieciabmaaGreatDoor
structure Vl where
 name:ByteArray
 n:Int
structure En where
 lot:Int
 price:Int
 values:List Vl
structure Rb where
 lots:List Int
 pc:Int
def EnIn(e:En):Prop:=In e.lot∧In e.price∧∀v∈e.values,In v.n
def RbIn(r:Rb):Prop:=In r.pc∧∀n∈r.lots,In n
def isLet(c:UInt8):Bool:=decide (97≤c.toNat∧c.toNat≤122)
def isWordL(l:List UInt8):Bool:= !l.isEmpty&&l.all isLet
def wLot:List UInt8:=[108,111,116]
def wRebate:List UInt8:=[114,101,98,97,116,101]
def goodN(l:List UInt8):Bool:=isWordL l&&l !=wLot
def rightL(es:List En):Bool:=es.all fun e=>e.values.all fun v=>goodN v.name.data.toList
def vLine(v:Vl):Ln:=(v.name.data.toList,[v.n])
def eLines(e:En):List Ln:=(wLot,[e.lot])::e.values.map vLine
def qLines(es:List En):List Ln:=es.flatMap eLines
def qualL(es:List En):List UInt8:=if rightL es=true then textG (qLines es) else []
def pLine(e:En):Ln:=(wLot,[e.lot,e.price])
def rLine(r:Rb):Ln:=(wRebate,r.pc::r.lots)
def pLines(es:List En)(rs:List Rb):List Ln:=es.map pLine++rs.map rLine
def pricL(es:List En)(rs:List Rb):List UInt8:=textG (pLines es rs)
def QRd(s:List UInt8)(es:List En):Prop:=rightL es=true∧(∀e∈es,EnIn e∧e.price=0)∧s=textG (qLines es)
theorem let_mid{c:UInt8}(h:isLet c=true):mid c=true:=by
 have h1:=of_decide_eq_true h
 unfold mid
 have h2:c≠32:=fun e=>by subst e;exact absurd h1 (by decide)
 have h3:c≠10:=fun e=>by subst e;exact absurd h1 (by decide)
 simp[h2,h3]
theorem word_mid{l:List UInt8}(h:isWordL l=true):∀c∈l,mid c=true:=fun c hc=>by
 unfold isWordL at h
 rw[Bool.and_eq_true] at h
 exact let_mid (List.all_eq_true.1 h.2 c hc)
theorem lot_mid:∀c∈wLot,mid c=true:=by decide
theorem rebate_mid:∀c∈wRebate,mid c=true:=by decide
theorem good_word{l:List UInt8}(h:goodN l=true):isWordL l=true:=by
 unfold goodN at h
 rw[Bool.and_eq_true] at h
 exact h.1
theorem good_ne{l:List UInt8}(h:goodN l=true):l≠wLot:=by
 unfold goodN at h
 rw[Bool.and_eq_true] at h
 exact bne_iff_ne.1 h.2
theorem right_val{es:List En}(h:rightL es=true){e:En}(he:e∈es){v:Vl}(hv:v∈e.values):goodN v.name.data.toList=true:=List.all_eq_true.1 (List.all_eq_true.1 h e he) v hv
theorem qLines_ok{es:List En}(h:rightL es=true)(hi:∀e∈es,EnIn e):∀x∈qLines es,LineOk x:=fun x hx=>by
 obtain⟨e,he,hx⟩:=List.mem_flatMap.1 hx
 unfold eLines at hx
 rcases List.mem_cons.1 hx with rfl|hx
 ·exact⟨lot_mid,fun n hn=>by obtain rfl:=List.mem_singleton.1 hn;exact(hi e he).1⟩
 ·obtain⟨v,hv,rfl⟩:=List.mem_map.1 hx
  exact⟨word_mid (good_word (right_val h he hv)),fun n hn=>by obtain rfl:=List.mem_singleton.1 hn;exact(hi e he).2.2 v hv⟩
theorem pLines_ok{es:List En}{rs:List Rb}(hi:∀e∈es,EnIn e)(hr:∀r∈rs,RbIn r):∀x∈pLines es rs,LineOk x:=fun x hx=>by
 rcases List.mem_append.1 hx with hx|hx
 ·obtain⟨e,he,rfl⟩:=List.mem_map.1 hx
  refine⟨lot_mid,fun n hn=> ?_⟩
  simp only[pLine,List.mem_cons,List.not_mem_nil,or_false] at hn
  rcases hn with rfl|rfl
  ·exact(hi e he).1
  ·exact(hi e he).2.1
 ·obtain⟨r,hr1,rfl⟩:=List.mem_map.1 hx
  refine⟨rebate_mid,fun n hn=> ?_⟩
  rcases List.mem_cons.1 hn with rfl|hn
  ·exact(hr r hr1).1
  ·exact(hr r hr1).2 n hn
def addL:List En→Vl→List En
 |[],_=>[]
 |[e],v=>[{e with values:=e.values++[v]}]
 |e::f::l,v=>e::addL (f::l) v
theorem addL_snoc(e:En)(v:Vl):∀es:List En,addL (es++[e]) v=es++[{e with values:=e.values++[v]}]
 |[]=>rfl
 |[x]=>rfl
 |x::y::l=>by
  have:=addL_snoc e v (y::l)
  simp only[List.cons_append] at this⊢
  rw[addL,this]
def qStep(es:List En)(x:Ln):List En:=if x.1=wLot then es++[⟨x.2.headD 0,0,[]⟩] else addL es ⟨⟨x.1.toArray⟩,x.2.headD 0⟩
def bld(p:List Ln):List En:=p.foldl qStep []
theorem bld_vals:∀(vs:List Vl) (es:List En) (e:En),(∀v∈vs,goodN v.name.data.toList=true)→(vs.map vLine).foldl qStep (es++[e])=es++[{e with values:=e.values++vs}]
 |[],es,e,_=>by simp
 |v::vs,es,e,h=>by
  have hn:(vLine v).1≠wLot:=good_ne (h v (by simp))
  rw[List.map_cons,List.foldl_cons]
  have hs:qStep (es++[e]) (vLine v)=es++[{e with values:=e.values++[v]}]:=by
   unfold qStep
   rw[if_neg hn,addL_snoc]
   simp[vLine]
  rw[hs,bld_vals vs es _ (fun u hu=>h u (by simp[hu]))]
  simp[List.append_assoc]
theorem bld_from:∀(es acc:List En),rightL es=true→(∀e∈es,e.price=0)→(qLines es).foldl qStep acc=acc++es
 |[],acc,_,_=>by simp[qLines]
 |e::es,acc,h,h0=>by
  have hv:∀v∈e.values,goodN v.name.data.toList=true:=fun v hv=>right_val h (by simp) hv
  have hr:rightL es=true:=by
   unfold rightL at h⊢
   rw[List.all_cons,Bool.and_eq_true] at h
   exact h.2
  have e1:qLines (e::es)=(wLot,[e.lot])::(e.values.map vLine++qLines es):=by unfold qLines eLines;simp
  have e2:qStep acc (wLot,[e.lot])=acc++[⟨e.lot,0,[]⟩]:=rfl
  have e3:({(⟨e.lot,0,[]⟩:En) with values:=[]++e.values}:En)=e:=by
   have:=h0 e (by simp)
   cases e
   simp_all
  rw[e1,List.foldl_cons,e2,List.foldl_append,bld_vals _ _ _ hv,bld_from es _ hr (fun x hx=>h0 x (by simp[hx])),e3]
  simp
theorem bld_q{es:List En}(h:rightL es=true)(h0:∀e∈es,e.price=0):bld (qLines es)=es:=by
 unfold bld
 rw[bld_from es [] h h0,List.nil_append]
theorem bld_take{p:List Ln}{k:Nat}{x:Ln}(h:p[k]? =some x):bld (p.take (k+1))=qStep (bld (p.take k)) x:=by
 unfold bld
 rw[List.take_add_one,h,Option.toList_some,List.foldl_append]
 rfl
theorem qLines_lot(es:List En)(n:Int):qLines (es++[⟨n,0,[]⟩])=qLines es++[(wLot,[n])]:=by unfold qLines eLines;simp
theorem qLines_val(es:List En)(e:En)(v:Vl):qLines (addL (es++[e]) v)=qLines (es++[e])++[vLine v]:=by
 rw[addL_snoc]
 unfold qLines eLines
 simp
theorem qLines_first{es:List En}{x:Ln}(h:(qLines es)[0]? =some x):x.1=wLot:=by
 cases es with
 |nil=>simp[qLines] at h
 |cons e es=>
  have e1:qLines (e::es)=(wLot,[e.lot])::(e.values.map vLine++qLines es):=by unfold qLines eLines;simp
  rw[e1] at h
  simp only[List.getElem?_cons_zero,Option.some.injEq] at h
  rw[←h]
theorem qLines_line{es:List En}(h:rightL es=true){x:Ln}(hx:x∈qLines es):(∃n,x.2=[n])∧isWordL x.1=true:=by
 obtain⟨e,he,hx⟩:=List.mem_flatMap.1 hx
 unfold eLines at hx
 rcases List.mem_cons.1 hx with rfl|hx
 ·exact⟨⟨e.lot,rfl⟩,(by decide:isWordL wLot=true)⟩
 ·obtain⟨v,hv,rfl⟩:=List.mem_map.1 hx
  exact⟨⟨v.n,rfl⟩,good_word (right_val h he hv)⟩
end Go.Proofs.YtpdlbmieciabmaaGreatDoor
namespace Go.Proofs.YtpdlbmieciabmaaGreatDoor
def rowOf(x:Ln):List (List UInt8):=x.1::x.2.map Lib.itoa
def rowD(r:List ByteArray):List (List UInt8):=r.map (·.data.toList)
theorem index_at{a b:List UInt8}{x:UInt8}(h:∀c∈a,c≠x):Lib.index (a++x::b) [x]=a.length:=by
 refine Lib.index_first (by simp) ?_ ?_
 ·unfold Lib.occAt
  rw[List.drop_left]
  simp
 ·intro j hj
  unfold Lib.occAt
  rw[List.drop_append_of_le_length (by omega),List.drop_eq_getElem_cons hj]
  have:=h a[j] (List.getElem_mem hj)
  simp only[List.cons_append,List.isPrefixOf_cons_cons]
  have e:(x==a[j])=false:=by simpa using fun e=>this e.symm
  rw[e];rfl
theorem index_no{a:List UInt8}{x:UInt8}(h:∀c∈a,c≠x):Lib.index a [x]= -1:=by
 refine Lib.index_none fun j _=> ?_
 cases ho:Lib.occAt a [x] j with
 |false=>rfl
 |true=>exact absurd rfl (h x (List.mem_of_getElem? (Lib.occAt_head rfl ho)))
theorem cut_line{a b:List UInt8}{x:UInt8}(h:∀c∈a,c≠x):Lib.cut (a++x::b) [x]=(a,b,true):=by
 unfold Lib.cut
 rw[index_at h,if_pos (by omega)]
 simp
theorem mid_blank{l:List UInt8}(h:∀c∈l,mid c=true):∀c∈l,c≠32:=fun c hc e=>by
 have:=h c hc
 rw[e] at this
 cases this
theorem mid_end{l:List UInt8}(h:∀c∈l,mid c=true):∀c∈l,c≠10:=fun c hc e=>by
 have:=h c hc
 rw[e] at this
 cases this
theorem words_end{ns:List Int}(h:∀n∈ns,In n):∀c∈wordsN ns,c≠10:=fun c hc e=>by
 unfold wordsN at hc
 obtain⟨n,hn,hc⟩:=List.mem_flatMap.1 hc
 rcases List.mem_cons.1 hc with rfl|hc
 ·cases e
 ·exact mid_end (itoa_mid (h n hn)) c hc e
def blankB:ByteArray:=⟨#[32]⟩
theorem split_words:∀(ns:List Int) (w:List UInt8) (s:ByteArray),(∀c∈w,c≠32)→(∀n∈ns,In n)→s.data.toList=w++wordsN ns→Lib.countB s blankB=ns.length∧rowD (Lib.splitB blankB 0 ns.length s)=w::ns.map Lib.itoa
 |[],w,s,h,_,e=>by
  have e1:s.data.toList=w:=by simpa [wordsN] using e
  have hi:Lib.indexB s blankB= -1:=by
   show Lib.index s.data.toList [32]= -1
   rw[e1]
   exact index_no h
  exact⟨Lib.countB_miss s blankB hi,by simp[rowD,Lib.splitB_zero,e1]⟩
 |n::ns,w,s,h,hn,e=>by
  rw[wordsN_cons] at e
  have hi:Lib.indexB s blankB=(w.length:Int):=by
   show Lib.index s.data.toList [32]=_
   rw[e]
   exact index_at h
  have hx:(s.extract (w.length+blankB.size) s.size).data.toList =Lib.itoa n++wordsN ns:=by
   rw[Lib.extract_to_end,e]
   show List.drop (w.length+1) _=_
   simp
  obtain⟨c1,c2⟩:=split_words ns (Lib.itoa n) (s.extract (w.length+blankB.size) s.size) (mid_blank (itoa_mid (hn n (by simp)))) (fun m hm=>hn m (by simp[hm])) hx
  refine⟨?_,?_⟩
  ·rw[Lib.countB_hit s blankB w.length (by decide) hi,c1,List.length_cons]
   omega
  ·rw[List.length_cons,Lib.splitB_hit blankB 0 ns.length s w.length hi]
   unfold rowD at c2⊢
   rw[List.map_cons,c2,Lib.extract_from_zero,e]
   simp
def rowW(r:List ByteArray):Nat:=(r.map fun t=>t.size+1).sum
def rowsW(rows:List (List ByteArray)):Nat:=(rows.map rowW).sum
theorem split_room:∀(k:Nat) (s:ByteArray),rowW (Lib.splitB blankB 0 k s)=s.size+1
 |0,s=>by simp[rowW,Lib.splitB_zero]
 |k+1,s=>by
  rcases Lib.indexB_cases s blankB with h|⟨i,h,hr⟩
  ·rw[Lib.splitB_miss blankB 0 (k+1) s h]
   simp[rowW]
  ·have e1:blankB.size=1:=rfl
   have h1:=split_room k (s.extract (i+blankB.size) s.size)
   rw[Lib.splitB_hit blankB 0 k s i h]
   unfold rowW at h1⊢
   rw[List.map_cons,List.sum_cons,h1]
   simp only[ByteArray.size_extract]
   omega
theorem rowsW_snoc(rows:List (List ByteArray))(r:List ByteArray):rowsW (rows++[r])=rowsW rows+rowW r:=by unfold rowsW;simp
theorem rowsW_take{rows:List (List ByteArray)}{k:Nat}{r:List ByteArray}(h:rows[k]? =some r):rowsW (rows.take (k+1))=rowsW (rows.take k)+rowW r:=by
 rw[List.take_add_one,h,Option.toList_some,rowsW_snoc]
theorem rowsW_take_le(rows:List (List ByteArray))(k:Nat):rowsW (rows.take k)≤rowsW rows:=by
 have e:rowsW rows=rowsW (rows.take k)+rowsW (rows.drop k):=by
  unfold rowsW
  rw[←List.sum_append,←List.map_append,List.take_append_drop]
 omega
theorem rowW_len:∀r:List ByteArray,r.length≤rowW r
 |[]=>Nat.zero_le _
 |t::r=>by
  have:=rowW_len r
  unfold rowW at this⊢
  rw[List.map_cons,List.sum_cons,List.length_cons]
  omega
theorem rowW_mem:∀{r:List ByteArray} {t:ByteArray},t∈r→t.size<rowW r
 |u::r,t,h=>by
  unfold rowW
  rw[List.map_cons,List.sum_cons]
  rcases List.mem_cons.1 h with rfl|h
  ·omega
  ·have:=rowW_mem h
   unfold rowW at this
   omega
def SplitR(s:List UInt8)(rows:List (List ByteArray))(ok:Bool):Prop:=(∀r∈rows,r≠[])∧(∀p,IsTx s p→ok=true∧rows.map rowD=p.map rowOf)∧rowsW rows≤s.length
def NumsR(ws:List (List UInt8))(ns:List Int)(ok:Bool):Prop:=(∀n∈ns,In n)∧(∀ms,(∀m∈ms,In m)→ws=ms.map Lib.itoa→ok=true∧ns=ms)∧ns.length≤ws.length
theorem atoi_itoa{n:Int}(h:In n):Lib.atoiAll (Lib.itoa n)= .ok n:=by rw[←Lib.parseIntB_64];exact parse_itoa h
end Go.Proofs.YtpdlbmieciabmaaGreatDoor
namespace Go.Proofs.YtpdlbmieciabmaaGreatDoor
theorem line_word(w:List UInt8)(n:Int)(r:List UInt8):lineOf (w,[n])++r=w++32::(Lib.itoa n++10::r):=by
 unfold lineOf lineL wordsN
 simp
end Go.Proofs.YtpdlbmieciabmaaGreatDoor
namespace Go.Proofs.YtpdlbmieciabmaaGreatDoor
def dgt(c:UInt8):Int:=if 48≤c.toNat∧c.toNat≤57 then(c.toNat:Int)-48 else if 97≤c.toNat∧c.toNat≤102 then(c.toNat:Int)-87 else-1
theorem dgt_hexC{n:Nat}(h:n<16):dgt (hexC n)=n:=by
 unfold dgt
 rw[hexC_nat h]
 by_cases hn:n<10
 ·rw[if_pos hn,if_pos (by omega)];omega
 ·rw[if_neg hn,if_neg (by omega),if_pos (by omega)];omega
theorem dgt_lt(c:UInt8): -1≤dgt c∧dgt c<16:=by
 unfold dgt
 split
 ·omega
 ·split<;>omega
theorem dgt_back{c:UInt8}(h:0≤dgt c):hexC (dgt c).toNat =c:=by
 have l:=dgt_lt c
 refine UInt8.toNat_inj.1 ?_
 rw[hexC_nat (by omega)]
 unfold dgt at h⊢
 split
 ·rw[if_pos (by omega)];omega
 ·rename_i h1
  rw[if_neg h1] at h
  split
  ·rw[if_neg (by omega)];omega
  ·rename_i h2
   rw[if_neg h2] at h
   omega
theorem hexL_app(a b:List UInt8):hexL (a++b)=hexL a++hexL b:=by
 induction a with
 |nil=>rfl
 |cons c a ih=>simp only[List.cons_append,hexL,ih]
def twoD(x y:UInt8):UInt8:=UInt8.ofNat (16*(dgt x).toNat +(dgt y).toNat)
theorem twoD_nat{x y:UInt8}(hx:0≤dgt x)(hy:0≤dgt y):(twoD x y).toNat =16*(dgt x).toNat +(dgt y).toNat :=by
 have:=dgt_lt x
 have:=dgt_lt y
 unfold twoD
 rw[UInt8.toNat_ofNat']
 omega
theorem hexL_two{x y:UInt8}(hx:0≤dgt x)(hy:0≤dgt y):hexL [twoD x y]=[x,y]:=by
 have lx:=dgt_lt x
 have ly:=dgt_lt y
 have h1:=twoD_nat hx hy
 simp only[hexL]
 rw[h1,show(16*(dgt x).toNat +(dgt y).toNat)/16=(dgt x).toNat by omega,show(16*(dgt x).toNat +(dgt y).toNat)%16=(dgt y).toNat by omega,dgt_back hx,dgt_back hy]
theorem hex_dgt(c:UInt8):0≤dgt (hexC (c.toNat/16))∧0≤dgt (hexC (c.toNat%16))∧twoD (hexC (c.toNat/16)) (hexC (c.toNat%16))=c:=by
 have l:=c.toNat_lt
 have h1:=dgt_hexC (n:=c.toNat/16) (by omega)
 have h2:=dgt_hexC (n:=c.toNat%16) (by omega)
 refine⟨by omega,by omega,UInt8.toNat_inj.1 ?_⟩
 rw[twoD_nat (by omega) (by omega),h1,h2]
 omega
theorem hex_mid{l:List UInt8}:∀c∈hexL l,mid c=true:=by
 have key:∀n:Fin 16,mid (hexC n.val)=true:=by decide
 induction l with
 |nil=>intro c hc;cases hc
 |cons d l ih=>
  intro c hc
  have hd:=d.toNat_lt
  simp only[hexL,List.mem_cons] at hc
  rcases hc with rfl|rfl|hc
  ·exact key ⟨d.toNat/16,by omega⟩
  ·exact key ⟨d.toNat%16,by omega⟩
  ·exact ih c hc
def bLines(b:Bd):List Ln:=[(wBid,[b.bidder]),(wQuality,b.qc),(hexL b.qt.data.toList,[]),(wPrice,b.pc),(hexL b.pt.data.toList,[])]
theorem encB_text(b:Bd):encB b=textG (bLines b):=by
 unfold encB bLines textG lineOf
 simp
def BRd(s:List UInt8)(b:Bd):Prop:=(In b.bidder∧(∀n∈b.qc,In n)∧∀n∈b.pc,In n)∧s=encB b
theorem bLines_ok{s:List UInt8}{b:Bd}(h:BRd s b):∀x∈bLines b,LineOk x:=fun x hx=>by
 obtain⟨⟨h1,h2,h3⟩,_⟩:=h
 unfold bLines at hx
 simp only[List.mem_cons,List.not_mem_nil,or_false] at hx
 rcases hx with rfl|rfl|rfl|rfl|rfl
 ·exact⟨(by decide:∀c∈wBid,mid c=true),fun n hn=>by obtain rfl:=List.mem_singleton.1 hn;exact h1⟩
 ·exact⟨(by decide:∀c∈wQuality,mid c=true),h2⟩
 ·exact⟨hex_mid,fun n hn=>(by cases hn)⟩
 ·exact⟨(by decide:∀c∈wPrice,mid c=true),h3⟩
 ·exact⟨hex_mid,fun n hn=>(by cases hn)⟩
theorem BRd.tx{s:List UInt8}{b:Bd}(h:BRd s b):IsTx s (bLines b):=⟨bLines_ok h,by rw[h.2,encB_text]⟩
theorem ba_ext{a b:ByteArray}(h:a.data.toList=b.data.toList):a=b:=by
 cases a;cases b
 simp only at h
 rw[ByteArray.mk.injEq]
 exact Array.toList_inj.1 h
theorem bLines_inj{a b:Bd}(h:bLines a=bLines b):a=b:=by
 unfold bLines at h
 simp only[List.cons.injEq,Prod.mk.injEq,true_and,and_true] at h
 obtain⟨h1,h2,h3,h4,h5⟩:=h
 have h6:=ba_ext (hexL_inj h3)
 have h7:=ba_ext (hexL_inj h5)
 cases a;cases b
 simp_all
theorem BRd.inj{s:List UInt8}{a b:Bd}(h:BRd s a)(k:BRd s b):a=b:=bLines_inj (h.tx.inj k.tx)
end Go.Proofs.YtpdlbmieciabmaaGreatDoor
namespace Go.Proofs.YtpdlbmieciabmaaGreatDoor
structure Li where
 lot:Int
 price:Int
 values:List (Int×Int)
structure Of where
 entries:List Li
 rebates:List (List Int)
def nameN:Nat→List UInt8
 |0=>[100,97,121,115]
 |1=>[115,116,97,102,102]
 |2=>[115,105,122,101]
 |3=>[113,117,97,108,105,116,121]
 |4=>[97]
 |5=>[100,97,121,115]
 |6=>[108,111,116]
 |7=>[116,119,111,32,119,111,114,100,115]
 |8=>[]
 |_=>[65]
def nameT(n:Int):ByteArray:=⟨(nameN (n%10).toNat).toArray⟩
def mkV(wild:Bool)(p:Int×Int):Vl:=⟨nameT (if wild then p.1 else p.1%6),p.2⟩
def mkE(wild:Bool)(l:Li):En:=⟨l.lot,l.price,(l.values.take 5).map (mkV wild)⟩
def mkEs(wild:Bool)(o:Of):List En:=(o.entries.take 6).map (mkE wild)
def mkR(r:List Int):Rb:=⟨r.tail.take 5,r.headD 0⟩
def mkRs(o:Of):List Rb:=(o.rebates.take 4).map mkR
structure Of.Ok(o:Of):Prop where
 ent:∀l∈o.entries,In l.lot∧In l.price∧∀v∈l.values,In v.1∧In v.2
 reb:∀r∈o.rebates,∀n∈r,In n
theorem mkE_in{l:Li}(h:In l.lot∧In l.price∧∀v∈l.values,In v.1∧In v.2)(wild:Bool):EnIn (mkE wild l):=
 ⟨h.1,h.2.1,fun v hv=>by
  obtain⟨p,hp,rfl⟩:=List.mem_map.1 hv
  exact(h.2.2 p (List.mem_of_mem_take hp)).2⟩
theorem mkEs_in{o:Of}(h:o.Ok)(wild:Bool):∀e∈mkEs wild o,EnIn e:=fun e he=>by
 obtain⟨l,hl,rfl⟩:=List.mem_map.1 he
 exact mkE_in (h.ent l (List.mem_of_mem_take hl)) wild
theorem mkR_in{r:List Int}(h:∀n∈r,In n):RbIn (mkR r):=by
 cases r with
 |nil=>exact⟨by show In 0;unfold In;omega,fun n hn=>by cases hn⟩
 |cons a r=>exact⟨h a (by simp),fun n hn=>h n (by simp only[mkR,List.tail_cons] at hn;simp[List.mem_of_mem_take hn])⟩
theorem mkRs_in{o:Of}(h:o.Ok):∀r∈mkRs o,RbIn r:=fun r hr=>by
 obtain⟨l,hl,rfl⟩:=List.mem_map.1 hr
 exact mkR_in (h.reb l (List.mem_of_mem_take hl))
theorem name_good:∀k:Fin 6,goodN (nameN k.val)=true:=by decide
theorem name_short(k:Nat):(nameN k).length≤9:=by
 unfold nameN
 split<;>decide
theorem mod_six(n:Int):(n%6%10).toNat <6:=by omega
theorem mkEs_right(o:Of):rightL (mkEs false o)=true:=by
 unfold rightL mkEs
 refine List.all_eq_true.2 fun e he=>List.all_eq_true.2 fun v hv=> ?_
 obtain⟨l,_,rfl⟩:=List.mem_map.1 he
 obtain⟨p,_,rfl⟩:=List.mem_map.1 hv
 exact name_good ⟨(p.1%6%10).toNat,mod_six p.1⟩
theorem mkV_name(wild:Bool)(p:Int×Int):(mkV wild p).name.size≤9:=by
 show(nameT _).size≤9
 have h:∀m:Int,(nameT m).size =(nameN (m%10).toNat).length :=fun m=>by
  show(nameN (m%10).toNat).toArray.size =_
  rw[List.size_toArray]
 rw[h]
 exact name_short _
theorem mkEs_len(wild:Bool)(o:Of):(mkEs wild o).length≤6:=by unfold mkEs;rw[List.length_map,List.length_take];omega
theorem mkE_vals(wild:Bool)(l:Li):(mkE wild l).values.length≤5:=by show((l.values.take 5).map (mkV wild)).length≤5;rw[List.length_map,List.length_take];omega
theorem mkRs_len(o:Of):(mkRs o).length≤4:=by unfold mkRs;rw[List.length_map,List.length_take];omega
theorem mkR_lots(r:List Int):(mkR r).lots.length≤5:=by show(r.tail.take 5).length≤5;rw[List.length_take];omega
end Go.Proofs.YtpdlbmieciabmaaGreatDoor
namespace Go.Proofs.YtpdlbmieciabmaaGreatDoor
theorem QRd.tx{s:List UInt8}{fs:List En}(h:QRd s fs):IsTx s (qLines fs):=⟨qLines_ok h.1 (fun e he=>(h.2.1 e he).1),h.2.2⟩
theorem row_line{s:List UInt8}{p:List Ln}{rows:List (List ByteArray)}{ok:Bool}(hs:SplitR s rows ok)(hp:IsTx s p){k:Nat}{r:List ByteArray}(hr:rows[k]? =some r):∃x,p[k]? =some x∧rowD r=rowOf x:=by
 obtain⟨_,e⟩:=hs.2.1 p hp
 have h1:(rows.map rowD)[k]? =some (rowD r):=by rw[List.getElem?_map,hr];rfl
 rw[e,List.getElem?_map] at h1
 cases hx:p[k]? with
 |none=>rw[hx] at h1;cases h1
 |some x=>
  rw[hx] at h1
  simp only[Option.map_some,Option.some.injEq] at h1
  exact⟨x,rfl,h1.symm⟩
theorem rows_len{s:List UInt8}{p:List Ln}{rows:List (List ByteArray)}{ok:Bool}(hs:SplitR s rows ok)(hp:IsTx s p):rows.length=p.length:=by
 have:=congrArg List.length (hs.2.1 p hp).2
 simpa using this
theorem row_nums{s:List UInt8}{p:List Ln}{rows:List (List ByteArray)}{ok fine:Bool}(hs:SplitR s rows ok)(hp:IsTx s p){k:Nat}{t:ByteArray}{r:List ByteArray}(hr:rows[k]? =some (t::r)){ns:List Int}(hn:NumsR (rowD r) ns fine):fine=true∧p[k]? =some (t.data.toList,ns):=by
 obtain⟨⟨w,ms⟩,hx,e⟩:=row_line hs hp hr
 unfold rowD rowOf at e
 simp only[List.map_cons,List.cons.injEq] at e
 have hok:=hp.1 (w,ms) (List.mem_of_getElem? hx)
 obtain⟨h1,h2⟩:=hn.2.1 ms hok.2 e.2
 rw[h2,e.1]
 exact⟨h1,hx⟩
def QI(s:List UInt8)(k:Nat)(es:List En):Prop:=(∀e∈es,EnIn e∧e.price=0)∧∀fs,QRd s fs→es=bld ((qLines fs).take k)
theorem QI.new(s:List UInt8):QI s 0 []:=⟨fun e he=>(by cases he),fun fs _=>by simp[bld]⟩
theorem QI.lot{s:List UInt8}{k:Nat}{es:List En}{rows:List (List ByteArray)}{ok:Bool}(h:QI s k es)(hs:SplitR s rows ok){t:ByteArray}{r:List ByteArray}(hr:rows[k]? =some (t::r)){n:Int}{fine:Bool}(hn:NumsR (rowD r) [n] fine)(ht:t.data.toList=wLot):QI s (k+1) (es++[⟨n,0,[]⟩]):=by
 refine⟨fun e he=> ?_,fun fs hq=> ?_⟩
 ·rcases List.mem_append.1 he with he|he
  ·exact h.1 e he
  ·obtain rfl:=List.mem_singleton.1 he
   exact⟨⟨hn.1 n (by simp),(by show In 0;unfold In;omega),fun v hv=>(by cases hv)⟩,rfl⟩
 ·have hx:=(row_nums hs hq.tx hr hn).2
  rw[bld_take hx,←h.2 fs hq]
  unfold qStep
  rw[if_pos ht]
  rfl
theorem QI.val{s:List UInt8}{k:Nat}{es:List En}{e:En}{rows:List (List ByteArray)}{ok:Bool}(h:QI s k (es++[e]))(hs:SplitR s rows ok){t:ByteArray}{r:List ByteArray}(hr:rows[k]? =some (t::r)){n:Int}{fine:Bool}(hn:NumsR (rowD r) [n] fine)(ht:t.data.toList≠wLot):QI s (k+1) (es++[{e with values:=e.values++[⟨t,n⟩]}]):=by
 refine⟨fun x hx=> ?_,fun fs hq=> ?_⟩
 ·rcases List.mem_append.1 hx with hx|hx
  ·exact h.1 x (by simp[hx])
  ·obtain rfl:=List.mem_singleton.1 hx
   obtain⟨⟨k1,k2,k3⟩,k4⟩:=h.1 e (by simp)
   refine⟨⟨k1,k2,fun v hv=> ?_⟩,k4⟩
   rcases List.mem_append.1 hv with hv|hv
   ·exact k3 v hv
   ·obtain rfl:=List.mem_singleton.1 hv
    exact hn.1 n (by simp)
 ·have hx:=(row_nums hs hq.tx hr hn).2
  rw[bld_take hx,←h.2 fs hq]
  unfold qStep
  rw[if_neg ht,addL_snoc]
  rfl
theorem QI.no{s:List UInt8}{k:Nat}{es:List En}{rows:List (List ByteArray)}{ok:Bool}(h:QI s k es)(hs:SplitR s rows ok){t:ByteArray}{r:List ByteArray}(hr:rows[k]? =some (t::r)){ns:List Int}{fine:Bool}(hn:NumsR (rowD r) ns fine)(hno:fine=false∨ns.length≠1∨(t.data.toList≠wLot∧es=[])):∀fs,¬QRd s fs:=fun fs hq=>by
 obtain⟨h1,hx⟩:=row_nums hs hq.tx hr hn
 obtain⟨⟨n,hl⟩,_⟩:=qLines_line hq.1 (List.mem_of_getElem? hx)
 rcases hno with e|e|⟨e1,e2⟩
 ·rw[h1] at e;cases e
 ·rw[show ns=[n] from hl] at e
  exact e rfl
 ·have he:=h.2 fs hq
  rw[e2] at he
  cases k with
  |zero=>exact e1 (qLines_first hx)
  |succ k=>
   have h0:0<(qLines fs).length :=by
    have:=(List.getElem?_eq_some_iff.1 hx).1
    omega
   obtain⟨y,hy⟩:∃y,(qLines fs)[0]? =some y:=⟨_,List.getElem?_eq_getElem h0⟩
   have hb:∀(p:List Ln) (acc:List En),acc≠[]→p.foldl qStep acc≠[]:=by
    intro p
    induction p with
    |nil=>intro acc ha;exact ha
    |cons z p ih=>
     intro acc ha
     rw[List.foldl_cons]
     refine ih _ ?_
     unfold qStep
     split
     ·simp
     ·obtain⟨a,b,hab⟩:∃a b,acc=a++[b]:=⟨acc.dropLast,acc.getLast ha,(List.dropLast_concat_getLast ha).symm⟩
      rw[hab,addL_snoc]
      simp
   have hc:(qLines fs).take (k+1)=y::(qLines fs).tail.take k:=by
    cases hq2:qLines fs with
    |nil=>rw[hq2] at h0;simp at h0
    |cons a l=>
     rw[hq2] at hy
     simp only[List.getElem?_cons_zero,Option.some.injEq] at hy
     subst hy
     rfl
   rw[hc] at he
   unfold bld at he
   rw[List.foldl_cons] at he
   refine hb _ _ ?_ he.symm
   unfold qStep
   rw[if_pos (qLines_first hy)]
   simp
theorem QI.all{s:List UInt8}{es:List En}{rows:List (List ByteArray)}{ok:Bool}(hs:SplitR s rows ok)(h:QI s rows.length es):(rightL es=true→s=qualL es→QRd s es)∧∀fs,QRd s fs→ok=true∧rightL es=true∧s=qualL es∧fs=es:=by
 refine⟨fun h1 h2=>⟨h1,h.1,?_⟩,fun fs hq=> ?_⟩
 ·unfold qualL at h2
  rw[if_pos h1] at h2
  exact h2
 ·have he:=h.2 fs hq
  rw[rows_len hs hq.tx,List.take_of_length_le (Nat.le_refl _),bld_q hq.1 (fun e he=>(hq.2.1 e he).2)] at he
  subst he
  refine⟨(hs.2.1 _ hq.tx).1,hq.1,?_,rfl⟩
  unfold qualL
  rw[if_pos hq.1]
  exact hq.2.2
def PlainR(l:List UInt8)(t:ByteArray)(ok:Bool):Prop:=∀x,l=hexL x→ok=true∧t.data.toList=x
theorem dec_rows{s:List UInt8}{r0 r1 r2 r3 r4:List ByteArray}{ok:Bool}{t0 t1 t2 t3 t4 qt pt:ByteArray}{n qc pc:List Int}{a b c d f:Bool}(hs:SplitR s [t0::r0,t1::r1,t2::r2,t3::r3,t4::r4] ok)(h0:NumsR (rowD r0) n a)(h1:NumsR (rowD r1) qc b)(h2:PlainR t2.data.toList qt c)(h3:NumsR (rowD r3) pc d)(h4:PlainR t4.data.toList pt f):∀x,BRd s x→ok=true∧a=true∧b=true∧c=true∧d=true∧f=true∧n=[x.bidder]∧qc=x.qc∧qt=x.qt∧pc=x.pc∧pt=x.pt:=fun x hx=>by
 obtain⟨e1,e2⟩:=row_nums hs hx.tx (k:=0) rfl h0
 obtain⟨e3,e4⟩:=row_nums hs hx.tx (k:=1) rfl h1
 obtain⟨e5,e6⟩:=row_nums hs hx.tx (k:=3) rfl h3
 obtain⟨y2,g2,k2⟩:=row_line hs hx.tx (k:=2) rfl
 obtain⟨y4,g4,k4⟩:=row_line hs hx.tx (k:=4) rfl
 simp only[bLines,List.getElem?_cons_zero,List.getElem?_cons_succ,Option.some.injEq,Prod.mk.injEq] at e2 e4 e6 g2 g4
 subst g2 g4
 unfold rowD rowOf at k2 k4
 simp only[List.map_cons,List.cons.injEq] at k2 k4
 obtain⟨m1,m2⟩:=h2 _ k2.1
 obtain⟨m3,m4⟩:=h4 _ k4.1
 exact⟨(hs.2.1 _ hx.tx).1,e1,e3,m1,e5,m3,e2.2.symm,e4.2.symm,ba_ext m2,e6.2.symm,ba_ext m4⟩
theorem dec_rows_no{s:List UInt8}{rows:List (List ByteArray)}{ok:Bool}(hs:SplitR s rows ok)(h:ok=false∨rows.length≠5):∀x,¬BRd s x:=fun x hx=>by
 rcases h with h|h
 ·rw[(hs.2.1 _ hx.tx).1] at h;cases h
 ·exact h (rows_len hs hx.tx)
theorem line_room{w:List UInt8}{ns:List Int}(h:∀n∈ns,In n):(lineOf (w,ns)).length≤w.length+22*ns.length+1:=by
 have key:∀l:List Int,(∀n∈l,In n)→(wordsN l).length≤22*l.length:=by
  intro l
  induction l with
  |nil=>intro _;simp[wordsN]
  |cons n l ih=>
   intro hl
   obtain⟨h0,h1⟩:=hl n (by simp)
   have:=itoa_len h0 h1
   have:=ih (fun m hm=>hl m (by simp[hm]))
   rw[wordsN_cons]
   simp only[List.length_cons,List.length_append]
   omega
 have:=key ns h
 unfold lineOf lineL
 simp only[List.length_append,List.length_singleton]
 omega
theorem row_room{t:ByteArray}{r:List ByteArray}{ns:List Int}{fine:Bool}(hn:NumsR (rowD r) ns fine):(lineOf (t.data.toList,ns)).length≤24*rowW (t::r):=by
 have h1:=line_room (w:=t.data.toList) hn.1
 have h2:=hn.2.2
 have h3:=rowW_len r
 have h4:(rowD r).length =r.length:=by unfold rowD;rw[List.length_map]
 have h5:rowW (t::r)=t.size+1+rowW r:=by unfold rowW;rw[List.map_cons,List.sum_cons]
 rw[←size_list] at h1
 omega
def QB(rows:List (List ByteArray))(k:Nat)(es:List En):Prop:=(textG (qLines es)).length≤24*rowsW (rows.take k)
theorem QB.new(rows:List (List ByteArray)):QB rows 0 []:=by simp[QB,qLines,textG]
theorem QB.lot{rows:List (List ByteArray)}{k:Nat}{es:List En}(h:QB rows k es){t:ByteArray}{r:List ByteArray}(hr:rows[k]? =some (t::r)){n:Int}{fine:Bool}(hn:NumsR (rowD r) [n] fine)(ht:t.data.toList=wLot):QB rows (k+1) (es++[⟨n,0,[]⟩]):=by
 have h1:=row_room (t:=t) hn
 unfold QB at h⊢
 rw[rowsW_take hr,qLines_lot,textG_snoc,List.length_append]
 rw[ht] at h1
 omega
theorem QB.val{rows:List (List ByteArray)}{k:Nat}{es:List En}{e:En}(h:QB rows k (es++[e])){t:ByteArray}{r:List ByteArray}(hr:rows[k]? =some (t::r)){n:Int}{fine:Bool}(hn:NumsR (rowD r) [n] fine):QB rows (k+1) (es++[{e with values:=e.values++[⟨t,n⟩]}]):=by
 have h1:=row_room (t:=t) hn
 have h2:=qLines_val es e ⟨t,n⟩
 rw[addL_snoc] at h2
 unfold QB at h⊢
 rw[rowsW_take hr,h2,textG_snoc,List.length_append]
 show _+(lineOf (t.data.toList,[n])).length≤_
 omega
theorem textG_ge:∀p:List Ln,p.length≤(textG p).length
 |[]=>Nat.zero_le _
 |x::p=>by
  have:=textG_ge p
  have:=List.length_pos_iff.2 (lineOf_ne x)
  rw[textG_cons,List.length_append,List.length_cons]
  omega
theorem textG_mem:∀{p:List Ln} {x:Ln},x∈p→x.1.length<(textG p).length
 |y::p,x,h=>by
  rw[textG_cons,List.length_append]
  rcases List.mem_cons.1 h with rfl|h
  ·unfold lineOf lineL
   simp only[List.length_append,List.length_singleton]
   omega
  ·have:=textG_mem h
   omega
theorem qLines_ge(es:List En):es.length≤(qLines es).length :=by
 induction es with
 |nil=>exact Nat.zero_le _
 |cons e es ih=>
  have e1:qLines (e::es)=eLines e++qLines es:=by unfold qLines;simp
  have:1≤(eLines e).length :=by unfold eLines;simp
  rw[e1,List.length_append,List.length_cons]
  omega
theorem qLines_vals{es:List En}{e:En}(h:e∈es):e.values.length<(qLines es).length :=by
 induction es with
 |nil=>cases h
 |cons f es ih=>
  have e1:qLines (f::es)=eLines f++qLines es:=by unfold qLines;simp
  rw[e1,List.length_append]
  rcases List.mem_cons.1 h with rfl|h
  ·unfold eLines
   simp only[List.length_cons,List.length_map]
   omega
  ·have:=ih h
   omega
end Go.Proofs.YtpdlbmieciabmaaGreatDoor
namespace Go.Proofs.YtpdlbmieciabmaaGreatDoor
theorem textG_len_app'(p q:List Ln):(textG (p++q)).length =(textG p).length +(textG q).length :=by rw[textG_app,List.length_append]
theorem take_snoc{α:Type}{l:List α}{k:Nat}{x:α}(h:l[k]? =some x):l.take (k+1)=l.take k++[x]:=by rw[List.take_add_one,h];rfl
theorem q_text_snoc{es:List En}{k:Nat}{e:En}(h:es[k]? =some e):textG (qLines (es.take (k+1)))=textG (qLines (es.take k))++lineOf (wLot,[e.lot])++textG (e.values.map vLine):=by
 rw[take_snoc h]
 unfold qLines eLines
 rw[List.flatMap_append,textG_app]
 simp only[List.flatMap_cons,List.flatMap_nil,List.append_nil]
 rw[textG_cons,List.append_assoc]
theorem v_text_snoc{vs:List Vl}{j:Nat}{v:Vl}(h:vs[j]? =some v):textG ((vs.take (j+1)).map vLine)=textG ((vs.take j).map vLine)++lineOf (vLine v):=by
 rw[take_snoc h,List.map_append,textG_app]
 simp[textG]
theorem p_text_snoc{es:List En}{k:Nat}{e:En}(h:es[k]? =some e):textG ((es.take (k+1)).map pLine)=textG ((es.take k).map pLine)++lineOf (pLine e):=by
 rw[take_snoc h,List.map_append,textG_app]
 simp[textG]
theorem r_text_snoc{rs:List Rb}{k:Nat}{r:Rb}(h:rs[k]? =some r):textG ((rs.take (k+1)).map rLine)=textG ((rs.take k).map rLine)++lineOf (rLine r):=by
 rw[take_snoc h,List.map_append,textG_app]
 simp[textG]
theorem pric_split(es:List En)(rs:List Rb):pricL es rs=textG (es.map pLine)++textG (rs.map rLine):=by
 unfold pricL pLines
 rw[textG_app]
theorem take_text_le(p:List Ln)(k:Nat):(textG (p.take k)).length≤(textG p).length :=by
 have e:(textG p).length =(textG (p.take k)).length +(textG (p.drop k)).length :=by rw[←textG_len_app',List.take_append_drop]
 omega
theorem textG_ge_mem:∀{p:List Ln} {x:Ln},x∈p→(lineOf x).length≤(textG p).length
 |y::p,x,h=>by
  rw[textG_cons,List.length_append]
  rcases List.mem_cons.1 h with rfl|h
  ·omega
  ·have:=textG_ge_mem h
   omega
theorem tx_beqT{a b:ByteArray}(h:a=b):(a==b)=true:=by
 subst h
 cases a with
 |mk d=>show(d==d)=true;simp
theorem tx_beqF{a b:ByteArray}(h:¬a=b):(a==b)=false:=by
 cases a with
 |mk d=>
  cases b with
  |mk f=>
   show(d==f)=false
   rw[beq_eq_false_iff_ne]
   intro e
   exact h (by rw[e])
theorem tx_listF{a b:ByteArray}(h:¬a=b):(a.toList==b.toList)=false:=by
 rw[Lib.toList_data,Lib.toList_data,beq_eq_false_iff_ne]
 exact fun e=>h (ba_ext e)
theorem tx_listT{a b:ByteArray}(h:a=b):(a.toList==b.toList)=true:=by
 rw[h]
 exact beq_self_eq_true _
theorem tx_litT{a:ByteArray}{l:List UInt8}(h:a.data.toList=l):(a.toList==l)=true:=by
 rw[Lib.toList_data]
 exact beq_iff_eq.2 h
theorem tx_litF{a:ByteArray}{l:List UInt8}(h:¬a.data.toList=l):(a.toList==l)=false:=by
 rw[Lib.toList_data]
 exact beq_eq_false_iff_ne.2 h
theorem tx_someF{a:ByteArray}(h:¬a=⟨#[]⟩):a.toList.isEmpty=false:=by
 rw[Lib.toList_data]
 cases hl:a.data.toList with
 |nil=>exact absurd (ba_ext hl) h
 |cons c l=>rfl
end Go.Proofs.YtpdlbmieciabmaaGreatDoor
