/- What is proved here:events built,in a slice of one,and in a slice of the call's own. Condition:hashes have 32 bytes. -/
import Derived.Test.YtgalfohobgjelaaGreatDoorKp26
namespace Go.Proofs.YtgalfohobgjelaaGreatDoor
open Go.RowKit Go.Shelf
theorem evC_ones (e:Ev):∀u∈evC e,u.oneCell'=true:=fun v hv=>by
 unfold evC at hv
 simp only [List.mem_append,List.mem_cons,List.not_mem_nil,or_false,List.mem_map] at hv
 rcases hv with(rfl|rfl|rfl|rfl|rfl|rfl|rfl|rfl|rfl|rfl|rfl|rfl)|⟨x,_,rfl⟩|rfl|rfl<;>rfl
theorem ev_info5:∃ie z,Tryz.prog.info? tEv=some ie∧ie.size=46∧ie.zero=some z∧z.cells.size=46∧ie.bytes≤1000:=by
 have h0:(Tryz.prog.info? tEv).map (fun i=>i.size)=some 46:=by kernel_rfl
 have h3:(Tryz.prog.info? tEv).map (fun i=>decide (i.bytes≤1000))=some true:=by kernel_rfl
 have h4:((Tryz.prog.info? tEv).bind (·.zero)).map (fun z=>z.cells.size)=some 46:=by kernel_rfl
 cases hie:Tryz.prog.info? tEv with
 |none=>rw [hie] at h0;cases h0
 |some ie=>
  rw [hie] at h0 h3 h4
  simp only [Option.map_some,Option.some.injEq,Option.bind_some,decide_eq_true_eq] at h0 h3 h4
  cases hz:ie.zero with
  |none=>rw [hz] at h4;cases h4
  |some z=>
   rw [hz] at h4
   simp only [Option.map_some,Option.some.injEq] at h4
   exact⟨ie,z,rfl,h0,hz,h4,h3⟩
def EvO (w:World) (base:Nat) (v:Value) (n:Nat) (M:List Ev):Prop:=w.ownsRow base tEv 46 v n (M.flatMap evC)
theorem EvO.sl {w:World} {base:Nat} {v:Value} {M:List Ev} (h:EvO w base v M.length M) (hM:∀e∈M,e.prev.length=32):EvSl w v M:=by
 obtain⟨A,cap,rfl,h1,h2⟩:=own_form' h
 refine⟨A,cap,rfl,h1,h2,fun i e he=> ?_⟩
 have hlt:i<M.length:=(List.getElem?_eq_some_iff.1 he).1
 obtain⟨g,c,e2,_,hg,_,_⟩:=own_form h (by omega)
 simp only [Value.slice.injEq,true_and] at e2
 obtain⟨rfl,rfl⟩:=e2
 refine⟨g,0,rfl,hg,fun j x hj=> ?_⟩
 have hj2:j<46:=by
  have:=(List.getElem?_eq_some_iff.1 hj).1
  rw [evC_len (hM e (List.mem_of_getElem? he))] at this;exact this
 have hfl:∀(M:List Ev),(∀e∈M,e.prev.length=32)→∀i e,M[i]? =some e→∀j x,j<46→(evC e)[j]? =some x→(M.flatMap evC)[i * 46+j]? =some x:=by
  intro M
  induction M with
  |nil=>intro _ i e he;simp at he
  |cons a M ih=>
   intro hM i e he j x hj hx
   have h46:(evC a).length=46:=evC_len (hM a (by simp))
   rw [List.flatMap_cons]
   cases i with
   |zero=>
    simp only [List.getElem?_cons_zero,Option.some.injEq] at he
    subst he
    rw [List.getElem?_append_left (by omega)]
    simpa using hx
   |succ i=>
    rw [List.getElem?_append_right (by rw [h46];omega),h46,show(i+1) * 46+j - 46=i * 46+j by omega]
    exact ih (fun x hx=>hM x (by simp [hx])) i e (by simpa using he) j x hj hx
 have h3:=World.ownsRow.cells h rfl (i * 46+j) x (hfl M hM i e he j x hj2 hj)
 rw [Addr.add_mid,Nat.zero_add] at h3
 rw [Nat.zero_add]
 exact h3
def evBs1 (parts:Array (Nat×Value)):Sem Value:=Instr.buildSlice 30 1 parts
theorem evBs1_eq (parts:Array (Nat×Value)):Instr.buildSlice 30 1 parts=evBs1 parts:=rfl
theorem evBs1_run (v:Ev) (hl:v.prev.length=32) (W:World):(evBs1 #[(0,.agg (evC v).toArray)]).run Tryz.prog W= .ok (.slice (some ⟨W.heap.size,0,none⟩) 1 1) (W.alloc (.cells (evC v).toArray 79)):=by
 obtain⟨ie,z,hie,hsz,hz,hzc,hby⟩:=ev_info5
 have h46:(evC v).length=46:=evC_len hl
 have e:([Value.agg (evC v).toArray].flatMap fun u=>u.cells.toList).toArray=(evC v).toArray:=by simp [Value.cells]
 have h9:∀C:Array Value,C.size=46→Instr.fill (fun i=>some (i * 46,46)) C [(0,Value.agg (evC v).toArray)]=some (evC v).toArray:=fun C hC=>by
  have h8:=Great.fill_whole (s:=46) (by omega) [Value.agg (evC v).toArray] C (by intro u hu;simp only [List.mem_cons,List.not_mem_nil,or_false] at hu;subst hu;show(evC v).toArray.size=46;rw [List.size_toArray,h46]) (by rw [hC];rfl)
  rw [e] at h8
  exact h8
 exact run_buildSlice (P:=Tryz.prog) W 30 79 1 #[(0,.agg (evC v).toArray)] (evC v).toArray ie z Tryz.underlying30 hie hz (by rw [hsz];omega) (by rw [hsz];omega) (by rw [hsz];exact h9 _ (by simp))
def evBd (parts:Array (Nat×Value)):Sem Value:=Instr.build 79 parts
theorem evBd_eq (parts:Array (Nat×Value)):Instr.build 79 parts=evBd parts:=rfl
def evZero (k:Int) (last:Hs):Ev:=⟨k,3,50,k,0,0,0,0,⟨#[]⟩,textAns,0,0,last,0,0⟩
set_option maxRecDepth 100000 in
theorem evBd_built (k:Int):∀(l:List UInt8),l.length=32→Tryz.prog.built 79 [(0,.int .i64 k),(1,.int .i64 3),(2,.int .i64 50),(3,.int .i64 k),(9,.string ⟨#[97,110,115,119,101,114]⟩),(11,.agg (l.map bv).toArray)]=some (evC (evZero k l)).toArray
 | [x0,x1,x2,x3,x4,x5,x6,x7,x8,x9,x10,x11,x12,x13,x14,x15,x16,x17,x18,x19,x20,x21,x22,x23,x24,x25,x26,x27,x28,x29,x30,x31],_=>by kernel_rfl
theorem evBd_run (k:Int) (l:List UInt8) (hl:l.length=32) (W:World):(evBd #[(0,.int .i64 k),(1,.int .i64 3),(2,.int .i64 50),(3,.int .i64 k),(9,.string ⟨#[97,110,115,119,101,114]⟩),(11,.agg (l.map bv).toArray)]).run Tryz.prog W= .ok (.agg (evC (evZero k l)).toArray) W:=
 run_build (P:=Tryz.prog) W 79 _ _ (evBd_built k l hl)
end Go.Proofs.YtgalfohobgjelaaGreatDoor
