/- Proved, each under the conditions that it names: package guard: is, need, name, two; Maps keyed by texts that a call makes itself, their entries written out in the order in which they came; package guard: row. -/
import Derived.Test.YtfbbkmdhnkmonaaGreatDoorT02
import Derived.Maps.Keyed
import Derived.Maps.RangeRun
import Derived.Maps.Own
import Derived.Deep.RegionHeld3
import Derived.Deep.RegionWith
set_option maxRecDepth 100000
set_option maxHeartbeats 32000000
namespace Go.Proofs.YtfbbkmdhnkmonaaGreatDoor
open Go.RowKit
def TokOk (now:ByteArray):Prop:=now.size=0\/∃l:List UInt8,now.data.toList=l.take (longB l)/\0<longB l
structure GS (s:ByteArray) (st:GSt):Prop where
 le:st.i<=s.size
 pos:st.pos<=st.i
 tok:TokOk st.now
 adv:st.now.size=0\/st.pos<st.i
 short:st.now.size<=s.size
theorem step_gs {s:ByteArray} {i:Nat} {st:GSt} (hi:i<=s.size) (h:stepB s i=.ok st):GS s st/\i<=st.pos:=by
 obtain ⟨_,h2,h3,h4,h5⟩:=stepB_ok hi h
 refine ⟨⟨h2,h3,?_,h5.imp id And.left,by rcases h5 with h5 | h5<;>omega⟩,h4⟩
 unfold stepB at h
 split at h
 ·injection h with h;subst h;exact .inl rfl
 split at h
 ·cases h
 rename_i h0
 injection h with h;subst h
 refine .inr ⟨s.data.toList.drop (fromB s i),?_,by omega⟩
 simp only [ByteArray.data_extract,Array.toList_extract]
 show (s.data.toList.drop (fromB s i)).take (fromB s i+longB (s.data.toList.drop (fromB s i))-fromB s i)=_
 rw [Nat.add_sub_cancel_left]
def AdvE (R:Nat) (s:ByteArray) (r:Except Nat GSt) (v:Value) (w:World) (e:Ending) (w':World):Prop :=
 KeepR R w w'/\match r with
  | .ok st=>e=.returned v/\RdIs R w' s st
  | .error a=>e=faultE a
theorem is_yes (R:Nat) (s:ByteArray) (st:GSt) (w:World) (hs:s.size<=17000) (hi:st.i<=s.size) (h:RdIs R w s st) (hv:GW R w) :
  Calls Tryz.prog 173 #[.pointer (some ⟨R,0,none⟩),.string st.now] w (AdvE R s (stepB s st.i) (.bool true) w):=by
 have HS:=hid (step_walk R s st w hs hi h hv)
 generalize stepB s st.i=X at *
 obtain ⟨x0,x1,x2,x3⟩:=rd_cells h
 clear h hv
 go_enter Tryz.func173,Tryz.ntmps173
 go_wp2_with fail
 refine HS.out.mono ?_
 rintro e w2 ⟨hk,h2⟩
 have HK:=hid hk
 clear hk HS
 cases X with
 | error a =>
  simp only at h2
  subst h2
  exact ⟨rfl,HK.out,rfl⟩
 | ok st1 =>
  obtain ⟨rfl,h3⟩:=h2
  have HR:=hid h3
  clear h3
  go_wp2_with fail
  go_ret
  exact ⟨HK.out,rfl,HR.out⟩
theorem is_no (R:Nat) (s:ByteArray) (st:GSt) (x:ByteArray) (w:World) (hx:¬st.now=x) (h:RdIs R w s st) :
  Calls Tryz.prog 173 #[.pointer (some ⟨R,0,none⟩),.string x] w fun e w'=>e=.returned (.bool false)/\w=w':=by
 obtain ⟨x0,x1,x2,x3⟩:=rd_cells h
 have g:(st.now.toList==x.toList)=false:=by rw [ba_eq];exact decide_eq_false hx
 clear h
 go_enter Tryz.func173,Tryz.ntmps173
 go_wp2_with fail
 go_ret
 exact ⟨rfl,rfl⟩
theorem need_walk (R:Nat) (s:ByteArray) (st:GSt) (x:ByteArray) (w:World) (hs:s.size<=17000) (hi:st.i<=s.size) (h:RdIs R w s st) (hv:GW R w) :
  Calls Tryz.prog 200 #[.pointer (some ⟨R,0,none⟩),.string x] w (AdvE R s (needB s x st) (.tuple #[]) w):=by
 obtain ⟨x0,x1,x2,x3⟩:=rd_cells h
 by_cases hx:st.now=x
 ·subst hx
  rw [needB,if_pos rfl]
  have HS:=hid (is_yes R s st w hs hi h hv)
  generalize stepB s st.i=X at *
  clear h hv
  go_enter Tryz.func200,Tryz.ntmps200
  go_wp2_with fail
  refine HS.out.mono ?_
  rintro e w2 ⟨hk,h2⟩
  have HK:=hid hk
  clear hk HS
  cases X with
  | error a =>
   simp only at h2
   subst h2
   exact ⟨rfl,HK.out,rfl⟩
  | ok st1 =>
   obtain ⟨rfl,h3⟩:=h2
   have HR:=hid h3
   clear h3
   go_wp2_with fail
   go_end0
   exact ⟨HK.out,rfl,HR.out⟩
 rw [needB,if_neg hx]
 have HS:=hid (is_no R s st x w hx h)
 clear h hv
 go_enter Tryz.func200,Tryz.ntmps200
 go_wp2_with fail
 refine HS.out.mono ?_
 rintro e w2 ⟨rfl,rfl⟩
 clear HS
 go_wp2_with fail
 exact ⟨rfl,KeepR.refl _ _,rfl⟩
theorem name_walk (R:Nat) (s:ByteArray) (st:GSt) (w:World) (hs:s.size<=17000) (hi:st.i<=s.size) (h:RdIs R w s st) (hv:GW R w) :
  Calls Tryz.prog 201 #[.pointer (some ⟨R,0,none⟩)] w (AdvE R s (if namedG st.now=true then stepB s st.i else .error st.pos) (.string st.now) w):=by
 obtain ⟨x0,x1,x2,x3⟩:=rd_cells h
 have HN:=hid (fun W=>namedG_walk st.now W)
 have HSS:=hid (fun (W:World) (h:RdIs R W s st) (hv:GW R W)=>step_walk R s st W hs hi h hv)
 generalize stepB s st.i=X at *
 have HR0:=hid h
 have HV0:=hid hv
 clear h hv
 generalize namedG st.now=nb at *
 cases nb with
 | false =>
  rw [if_neg (by decide)]
  go_enter Tryz.func201,Tryz.ntmps201
  go_wp2_with fail
  refine (HN.out _).mono ?_
  rintro e w2 ⟨rfl,hb⟩
  have HR1:Hid (RdIs R w2 s st):=⟨(hb.block R (Arr.lt HR0.out)).trans HR0.out.heap⟩
  have HB:=hid hb
  obtain ⟨y0,y1,y2,y3⟩:=rd_cells HR1.out
  clear hb HN
  go_wp2_with fail
  exact ⟨rfl,KeepR.of HB.out,rfl⟩
 | true =>
  rw [if_pos rfl]
  go_enter Tryz.func201,Tryz.ntmps201
  go_wp2_with fail
  refine (HN.out _).mono ?_
  rintro e w2 ⟨rfl,hb⟩
  have HR1:Hid (RdIs R w2 s st):=⟨(hb.block R (Arr.lt HR0.out)).trans HR0.out.heap⟩
  have HB:=hid hb
  have HS:=hid (HSS.out w2 HR1.out (HV0.out.keep (.of hb)))
  clear hb HN
  go_wp2_with fail
  refine HS.out.mono ?_
  rintro e w3 ⟨hk,h2⟩
  have HK:=hid ((KeepR.of HB.out).trans hk)
  clear hk HS
  cases X with
  | error a =>
   simp only at h2
   subst h2
   exact ⟨rfl,HK.out,rfl⟩
  | ok st1 =>
   obtain ⟨rfl,h3⟩:=h2
   have HR:=hid h3
   clear h3
   go_wp2_with fail
   go_ret
   exact ⟨HK.out,rfl,HR.out⟩
theorem results_cellG {fn:Func} {p:Tmp} {ty:TypeId} (h:fn.results=#[.cell p ty]) (tmps:Array Value) (P:Program) (w:World) :
  (results fn tmps).run P w=((asAddr (tmps.getD p undef)).run P w).andThen fun a w₁=>(loadVar ty a).run P w₁:=by
 simp only [results,h]
 simp [Sem.run_bind,Result.andThen]
theorem size_alloc (w:World) (o:Obj):(w.alloc o).heap.size=w.heap.size+1:=by
 rw [show (w.alloc o).heap=w.heap.push o from rfl,Array.size_push]
theorem alloc_at {w:World} {o:Obj} {k:Nat} (h:k=w.heap.size):(w.alloc o).heap[k]? = some o:=by
 subst h
 rw [show (w.alloc o).heap=w.heap.push o from rfl,Array.getElem?_push_size]
theorem ret_guard {fn:Func} {p:Tmp} {g:Nat} {w:World} {a:Act} {cs:List Value} {R:Ending->World->Prop} (h:fn.results=#[.cell p 80]) (hp:a.tmps.getD p undef=.pointer (some ⟨g,0,none⟩))
  (hd:a.defers=[]) (hl:cs.length=4) (hA:Arr w g 80 cs) (hR:R (.returned (.agg cs.toArray)) w):bodyPost Tryz.prog fn R .ret a w:=by
 refine bodyPost_ret ?_ hd hR
 rw [results_cellG h,hp]
 simp only [asAddr,Sem.run_pure,Result.andThen_ok]
 exact run_loadVar_mid w g 0 _ cs _ hA.range Tryz.underlying80 rfl (by rw [hl];kernel_rfl)
theorem two_walk (X:Nat->Prop) (k:Nat) (a b:GT) (da db:List Value) (w:World) (hX:∀k,X k->k<w.heap.size) (ha:GIs X w a da) (hb:GIs X w b db) :
  Calls Tryz.prog 144 #[.int .u8 k,.agg da.toArray,.agg db.toArray] w fun e w'=>Below w.heap.size w w'/\∃cs:List Value,e=.returned (.agg cs.toArray)/\GIs X w' (.two k a b) cs:=by
 have HA:=hid ha
 have HB:=hid hb
 obtain ⟨k1,n1,s1,a1,l1,c1,rfl⟩:=ha.four
 obtain ⟨k2,n2,s2,a2,l2,c2,rfl⟩:=hb.four
 clear ha hb
 go_enter Tryz.func144,Tryz.ntmps144
 go_wp2_with fail
 refine ret_guard rfl (g:=w.heap.size+1+1) (cs:=[.int .u8 k,.int .i64 0,.string ⟨#[]⟩,.slice (some ⟨w.heap.size+1+1+1,0,none⟩) 2 2]) rfl rfl rfl (Arr.alloc ⟨alloc_at (by rw [size_alloc,size_alloc])⟩ _) ?_
 have hbel:Below w.heap.size w _:=((((Below.refl w.heap.size w).alloc (Nat.le_refl _) (.cells #[.int .u8 k1,.int .i64 n1,.string s1,.slice a1 l1 c1] 80)).alloc (by simp) (.cells #[.int .u8 k2,.int .i64 n2,.string s2,.slice a2 l2 c2] 80)).alloc (by simp<;>omega) (.cells #[.int .u8 k,.int .i64 0,.string ⟨#[]⟩,.slice (some ⟨w.heap.size+1+1+1,0,none⟩) 2 2] 80)).alloc (by simp<;>omega) (.cells #[.int .u8 k1,.int .i64 n1,.string s1,.slice a1 l1 c1,.int .u8 k2,.int .i64 n2,.string s2,.slice a2 l2 c2] 80)
 exact ⟨hbel,_,rfl,_,_,_,rfl,fun hx=>by have:=hX _ hx;omega,⟨alloc_at (by rw [size_alloc,size_alloc,size_alloc])⟩,HA.out.below hbel,HB.out.below hbel⟩
end Go.Proofs.YtfbbkmdhnkmonaaGreatDoor
namespace Go.Proofs.YtfbbkmdhnkmonaaGreatDoor
open Go.RowKit Go.ChangeMaps
open Go.Maps (Keyed)
abbrev Ents:=List (ByteArray×Value)
def entOf (i:Nat) (x:ByteArray×Value):MapEntry:=⟨.string x.1,x.2,i⟩
def entsL (ents:Ents):List MapEntry:=ents.mapIdx entOf
def mapObj (ents:Ents):Obj:=.map (entsL ents).toArray ents.length
structure MapIs (w:World) (b:Nat) (ents:Ents):Prop where
 heap:w.heap[b]? = some (mapObj ents)
 nodup:(ents.map (·.1)).Nodup
 short:∀x∈ents,x.1.size<=maxLen
def getM:Ents->ByteArray->Option Value
 | [],_=>none
 | x :: r,k=>if x.1=k then some x.2 else getM r k
def putM:Ents->ByteArray->Value->Ents
 | [],k,v=>[(k,v)]
 | x :: r,k,v=>if x.1=k then (k,v) :: r else x :: putM r k v
theorem getM_none {ents:Ents} {k:ByteArray}:getM ents k=none↔∀x∈ents,x.1≠k:=by
 induction ents with
 | nil=>simp [getM]
 | cons x r ih =>
  simp only [getM]
  by_cases h:x.1=k
  ·simp [h]
  simp [h,ih]
theorem putM_keys_old {ents:Ents} {k:ByteArray} {v u:Value} (h:getM ents k=some u):(putM ents k v).map (·.1)=ents.map (·.1):=by
 induction ents with
 | nil=>simp [getM] at h
 | cons x r ih =>
  simp only [getM] at h
  by_cases hk:x.1=k
  ·simp [putM,hk]
  simp only [hk,if_false] at h
  simp [putM,hk,ih h]
theorem putM_new {ents:Ents} {k:ByteArray} {v:Value} (h:getM ents k=none):putM ents k v=ents++[(k,v)]:=by
 induction ents with
 | nil=>rfl
 | cons x r ih =>
  simp only [getM] at h
  by_cases hk:x.1=k
  ·simp [hk] at h
  simp only [hk,if_false] at h
  simp [putM,hk,ih h]
theorem mem_putM {ents:Ents} {k:ByteArray} {v:Value} {x:ByteArray×Value} (h:x∈putM ents k v):x∈ents\/x=(k,v):=by
 induction ents with
 | nil=>simpa [putM] using h
 | cons y r ih =>
  simp only [putM] at h
  split at h
  ·rcases List.mem_cons.1 h with h | h
   ·exact .inr h
   exact .inl (by simp [h])
  rcases List.mem_cons.1 h with h | h
  ·exact .inl (by simp [h])
  rcases ih h with h | h
  ·exact .inl (by simp [h])
  exact .inr h
theorem sb_same {w:World} {b:Nat} (hb:b<w.heap.size) (o:Obj):(setBlock w b o).heap[b]? = some o:=by simp [setBlock,hb]
theorem sb_other (w:World) {b:Nat} (o:Obj) {i:Nat} (h:i≠b):(setBlock w b o).heap[i]? = w.heap[i]?:=by simp [setBlock,Ne.symm h]
theorem entsL_length (ents:Ents):(entsL ents).length=ents.length:=by simp [entsL]
theorem entsL_get (ents:Ents) (i:Nat) (h:i<ents.length):(entsL ents)[i]? = some (entOf i ents[i]):=by simp [entsL,h]
theorem mem_entsL {ents:Ents} {e:MapEntry} (h:e∈entsL ents):∃i,∃hi:i<ents.length,e=entOf i ents[i]:=by
 obtain ⟨i,hi,rfl⟩:=List.mem_iff_getElem.1 h
 have hi':i<ents.length:=by simpa [entsL] using hi
 exact ⟨i,hi',by simp [entsL]⟩
theorem entsL_born (ents:Ents):(entsL ents).map (·.born)=List.range ents.length:=by
 apply List.ext_getElem
 ·simp [entsL]
 intro i h1 h2
 simp [entsL,entOf]
section
variable {P:Program} {T K E:TypeId} {w:World} {b:Nat} {ents:Ents}
theorem key_str (hK:P.underlying K=some .string) {k:ByteArray} (hk:k.size<=maxLen):keyOf P K (.string k)=some (.string k.data.toList):=by
 simp [keyOf,hK,mapKey,hk]
theorem MapIs.lt (h:MapIs w b ents):b<w.heap.size:=(Array.getElem?_eq_some_iff.1 h.heap).1
theorem MapIs.kept {w':World} (h:MapIs w b ents) (hh:w'.heap[b]? = w.heap[b]?):MapIs w' b ents:=⟨hh.trans h.heap,h.nodup,h.short⟩
theorem MapIs.below {B:Nat} {w':World} (h:MapIs w b ents) (hb:Below B w w') (hB:b<B):MapIs w' b ents:=h.kept (hb.block b hB)
theorem MapIs.alloc (h:MapIs w b ents) (o:Obj):MapIs (w.alloc o) b ents:=h.kept (Below.heap_alloc w o b h.lt)
theorem MapIs.setCell (h:MapIs w b ents) {a:Addr} (hne:b≠a.block) (u:Value):MapIs (w.setCell a u) b ents:=h.kept (Below.heap_setCell w a u b hne)
theorem MapIs.made (w:World):MapIs (w.alloc (.map #[] 0)) w.heap.size []:=⟨(MapKept.heap_alloc w _).1,by simp,by simp⟩
theorem MapIs.find (h:MapIs w b ents) (hK:P.underlying K=some .string) {k:ByteArray} (hk:k.size<=maxLen) (W:World) :
  ((Instr.findKey K (.string k) (entsL ents)).run P W=.ok none W/\getM ents k=none) \/
  ∃i,∃hi:i<ents.length,(Instr.findKey K (.string k) (entsL ents)).run P W=.ok (some (i,ents[i].2)) W/\ents[i].1=k/\getM ents k=some ents[i].2:=by
 have L:Keyed P K:=Maps.string_keyed hK
 rcases L.find W (key_str hK hk) (entsL ents) (fun e he=>by
   obtain ⟨i,hi,rfl⟩:=mem_entsL he
   exact ⟨_,key_str hK (h.short _ (List.getElem_mem hi))⟩) with ⟨h1,h2⟩ | ⟨j,e,h1,h2,h3⟩
 ·refine .inl ⟨h1,getM_none.2 fun x hx hxk=>?_⟩
  obtain ⟨i,hi,rfl⟩:=List.mem_iff_getElem.1 hx
  exact h2 _ (List.mem_of_getElem? (entsL_get ents i hi)) (by simp [entOf,hxk])
 right
 have hj:j<ents.length:=by
  rcases Nat.lt_or_ge j ents.length with h | h
  ·exact h
  rw [List.getElem?_eq_none (by rw [entsL_length];exact h)] at h2;cases h2
 rw [entsL_get ents j hj] at h2
 injection h2 with h2
 subst h2
 have hk':ents[j].1=k:=by simpa [entOf] using h3
 refine ⟨j,hj,h1,hk',?_⟩
 have hn:=h.nodup
 clear h1 h3 h
 induction ents generalizing j with
 | nil=>simp at hj
 | cons x r ih =>
  cases j with
  | zero=>simp at hk';simp [getM,hk']
  | succ j =>
   simp at hk'
   simp only [List.map_cons,List.nodup_cons] at hn
   have hne:x.1≠k:=by
    intro he
    exact hn.1 (by rw [he,<-hk'];exact List.mem_map_of_mem (List.getElem_mem (by simpa using hj)))
   simp only [getM,hne,if_false,gE1]
   exact ih j (by simpa using hj) hk' hn.2
theorem MapIs.lookup (h:MapIs w b ents) (hT:P.underlying T=some (.map K E)) (hK:P.underlying K=some .string) {z:Value} (hz:∀W,(zeroValue E).run P W=.ok z W) {k:ByteArray} (hk:k.size<=maxLen) :
  (Instr.lookup T (.map (some b)) (.string k) true).run P w=.ok (.tuple #[(getM ents k).getD z,.bool (getM ents k).isSome]) w:=by
 have L:Keyed P K:=Maps.string_keyed hK
 rcases h.find hK hk w with ⟨h1,h2⟩ | ⟨i,hi,h1,h2,h3⟩
 ·simp [Instr.lookup,run_underlying hT,MapKept.run_getObj_map h.heap,L.check w _ (key_str hK hk),h1,hz,Result.andThen,h2]
 simp [Instr.lookup,run_underlying hT,MapKept.run_getObj_map h.heap,L.check w _ (key_str hK hk),h1,Result.andThen,h3]
theorem MapIs.len (h:MapIs w b ents) (hT:P.underlying T=some (.map K E)) (ty:TypeId):(Builtin.len_ #[T] ty #[.map (some b)]).run P w=.ok (.int .i64 ents.length) w:=by
 simp [Builtin.len_,run_underlying hT,MapKept.run_getObj_map h.heap,Result.andThen,entsL,goInt]
theorem entsL_snoc (ents:Ents) (x:ByteArray×Value):entsL (ents++[x])=entsL ents++[entOf ents.length x]:=by simp [entsL,List.mapIdx_append]
theorem entsL_put {ents:Ents} {k:ByteArray} {v:Value} {i:Nat} (hi:i<ents.length) (hk:ents[i].1=k) (hn:(ents.map (·.1)).Nodup) :
  (entsL ents).modify i (fun e=>{ e with key:=.string k,val:=v })=entsL (putM ents k v):=by
 have h1:putM ents k v=ents.set i (k,v):=by
  induction ents generalizing i with
  | nil=>simp at hi
  | cons x r ih =>
   cases i with
   | zero=>simp at hk;simp [putM,hk]
   | succ i =>
    simp at hk
    simp only [List.map_cons,List.nodup_cons] at hn
    have hne:x.1≠k:=by
     intro he
     exact hn.1 (by rw [he,<-hk];exact List.mem_map_of_mem (List.getElem_mem (by simpa using hi)))
    simp only [putM,hne,if_false,List.set_cons_succ]
    rw [ih (by simpa using hi) hk hn.2]
 rw [h1]
 apply List.ext_getElem
 ·simp [entsL]
 intro j h2 h3
 simp only [entsL,List.getElem_modify,List.getElem_mapIdx,List.getElem_set]
 by_cases hj:i=j
 ·subst hj;simp [entOf]
 simp [hj]
theorem MapIs.update (h:MapIs w b ents) (hT:P.underlying T=some (.map K E)) (hK:P.underlying K=some .string) {k:ByteArray} (hk:k.size<=maxLen) (v:Value) :
  ∃w',(Instr.mapUpdate T (.map (some b)) (.string k) v).run P w=.ok () w'/\MapIs w' b (putM ents k v)/\w.grownBy w' (some b)/\w'.heap.size=w.heap.size:=by
 have L:Keyed P K:=Maps.string_keyed hK
 rcases h.find hK hk w with ⟨h1,h2⟩ | ⟨i,hi,h1,h2,h3⟩
 ·have e:(entsL ents).toArray.push { key:=.string k,val:=v,born:=ents.length }=(entsL (putM ents k v)).toArray:=by
   rw [putM_new h2,entsL_snoc]
   simp [entOf]
  refine ⟨setBlock w b (mapObj (putM ents k v)),?_,⟨heap_setBlock_same h.heap _,?_,?_⟩,⟨rfl,rfl,rfl,by simp [setBlock],fun i _ hi=>heap_setBlock_other h.heap _ (fun e=>hi (by rw [e]))⟩,by simp [setBlock]⟩
  ·simp [Instr.mapUpdate,run_underlying hT,MapKept.run_getObj_map h.heap,L.check w _ (key_str hK hk),h1,Result.andThen,MapKept.run_setObj_map _ h.heap]
   rw [show mapObj (putM ents k v)=.map ((entsL ents).toArray.push { key:=.string k,val:=v,born:=ents.length }) (ents.length+1) by rw [e,mapObj,putM_new h2];simp]
   simp [setBlock]
  ·rw [putM_new h2,List.map_append,List.nodup_append]
   refine ⟨h.nodup,by simp,?_⟩
   intro a ha c hc
   simp at hc
   obtain ⟨x,hx,rfl⟩:=List.mem_map.1 ha
   rw [hc]
   exact getM_none.1 h2 x hx
  intro x hx
  rcases mem_putM hx with h' | rfl
  ·exact h.short x h'
  exact hk
 have e:(entsL ents).toArray.modify i (fun e=>{ e with key:=.string k,val:=v })=(entsL (putM ents k v)).toArray:=by
  rw [<-entsL_put hi h2 h.nodup]
  simp
 have hl:(putM ents k v).length=ents.length:=by
  have:=congrArg List.length (putM_keys_old (v:=v) h3)
  simpa using this
 have hst:=L.stays w (key_str hK hk)
 have hkey:((entsL ents)[i]?.map (·.key)).getD (.string k)=.string k:=by rw [entsL_get ents i hi];simp [entOf,h2]
 refine ⟨setBlock w b (mapObj (putM ents k v)),?_,⟨heap_setBlock_same h.heap _,?_,?_⟩,⟨rfl,rfl,rfl,by simp [setBlock],fun i _ hi=>heap_setBlock_other h.heap _ (fun e=>hi (by rw [e]))⟩,by simp [setBlock]⟩
 ·have e2:(entsL ents).modify i (fun e=>{ e with key:=.string k,val:=v })=entsL (putM ents k v):=entsL_put hi h2 h.nodup
  simp [Instr.mapUpdate,run_underlying hT,MapKept.run_getObj_map h.heap,L.check w _ (key_str hK hk),h1,Result.andThen]
  rw [hkey,hst]
  simp only [e2]
  rw [MapKept.run_setObj_map _ h.heap,mapObj,hl]
  rfl
 ·rw [putM_keys_old h3];exact h.nodup
 intro x hx
 rcases mem_putM hx with h' | rfl
 ·exact h.short x h'
 exact hk
structure IterIs (w:World) (r b:Nat) (n:Nat) (seen:List Nat):Prop where
 heap:w.heap[r]? = some (.mapIter (some b) n seen.toArray n)
 inB:∀i∈seen,i<n
 nodup:seen.Nodup
theorem MapIs.range (h:MapIs w b ents) (hT:P.underlying T=some (.map K E)):(Instr.range T (.map (some b))).run P w=.ok (.pointer (some ⟨w.heap.size,0,none⟩)) (w.alloc (.mapIter (some b) ents.length #[] ents.length)):=by
 simp [Instr.range,run_underlying hT,MapKept.run_getObj_map h.heap,Result.andThen,newObj,Sem.run]
theorem IterIs.made (w:World) (b n:Nat):IterIs (w.alloc (.mapIter (some b) n #[] n)) w.heap.size b n []:=⟨(MapKept.heap_alloc w _).1,by simp,by simp⟩
theorem IterIs.lt {r n:Nat} {seen:List Nat} (h:IterIs w r b n seen):r<w.heap.size:=(Array.getElem?_eq_some_iff.1 h.heap).1
theorem IterIs.below {B r n:Nat} {seen:List Nat} {w':World} (h:IterIs w r b n seen) (hb:Below B w w') (hB:r<B):IterIs w' r b n seen:=⟨(hb.block r hB).trans h.heap,h.inB,h.nodup⟩
theorem MapIs.next {r:Nat} {seen:List Nat} (h:MapIs w b ents) (hi:IterIs w r b ents.length seen) (ty:TypeId) :
  ((∀i,i<ents.length->i∈seen)/\(Instr.next (.pointer (some ⟨r,0,none⟩)) false ty).run P w=.ok (.tuple #[.bool false]) w) \/
  ∃i,∃hl:i<ents.length,i∉seen/\∃w',(Instr.next (.pointer (some ⟨r,0,none⟩)) false ty).run P w=.ok (.tuple #[.bool true,.string ents[i].1,ents[i].2]) w'/\MapIs w' b ents/\IterIs w' r b ents.length (seen++[i]) /\
   w.grownBy w' (some r)/\w'.heap.size=w.heap.size/\(Instr.entry (.pointer (some ⟨r,0,none⟩))).run P w'=.ok (.tuple #[.string ents[i].1,ents[i].2]) w':=by
 have hne:r≠b:=by
  rintro rfl
  have:=hi.heap.symm.trans h.heap
  simp [mapObj] at this
 have hleft:∀e,e∈(leftOf (entsL ents).toArray seen.toArray).toList↔∃i,∃hl:i<ents.length,e=entOf i ents[i]/\i∉seen:=by
  intro e
  simp only [leftOf,Array.toList_filter,List.mem_filter]
  constructor
  ·rintro ⟨h1,h2⟩
   obtain ⟨i,hl,rfl⟩:=mem_entsL h1
   exact ⟨i,hl,rfl,by simpa [entOf] using h2⟩
  rintro ⟨i,hl,rfl,h2⟩
  exact ⟨List.mem_of_getElem? (entsL_get ents i hl),by simpa [entOf] using h2⟩
 rcases run_next_at (P:=P) w ty r b ents.length ents.length seen.toArray (entsL ents).toArray ents.length hi.heap h.heap (fun x hx=>by
   obtain ⟨i,hl,rfl⟩:=mem_entsL hx
   exact hl) (Nat.le_refl _) with ⟨h0,hrun⟩ | ⟨e,he,w1,hw1,hrun⟩
 ·refine .inl ⟨fun i hl=>?_,hrun⟩
  rcases Classical.em (i∈seen) with hs | hs
  ·exact hs
  have:=(hleft _).2 ⟨i,hl,rfl,hs⟩
  rw [Array.eq_empty_of_size_eq_zero h0] at this
  simp at this
 obtain ⟨i,hl,rfl,hs⟩:=(hleft e).1 he
 have hr1:w1.heap[r]? = some (.mapIter (some b) ents.length seen.toArray ents.length):=by rcases hw1 with rfl | rfl<;>exact hi.heap
 have hb1:w1.heap[b]? = some (mapObj ents):=by rcases hw1 with rfl | rfl<;>exact h.heap
 have hg1:w.grownBy w1 (some r):=by rcases hw1 with rfl | rfl<;>exact ⟨rfl,rfl,rfl,Nat.le_refl _,fun _ _ _=>rfl⟩
 have hz1:w1.heap.size=w.heap.size:=by rcases hw1 with rfl | rfl<;>rfl
 have hlt1:r<w1.heap.size:=by rw [hz1];exact hi.lt
 refine .inr ⟨i,hl,hs,_,hrun,⟨(sb_other w1 _ (Ne.symm hne)).trans hb1,h.nodup,h.short⟩,⟨?_,?_,?_⟩,?_,?_,?_⟩
 ·rw [sb_same hlt1]
  simp [entOf]
 ·intro j hj
  rcases List.mem_append.1 hj with hj | hj
  ·exact hi.inB j hj
  simp at hj;omega
 ·rw [List.nodup_append]
  refine ⟨hi.nodup,by simp,fun a ha c hc=>?_⟩
  simp at hc
  rintro rfl
  exact hs (hc▸ha)
 ·exact ⟨hg1.os,hg1.tape,hg1.output,by simp [setBlock,hz1],fun j hj hne'=>(sb_other w1 _ (fun e=>hne' (by rw [e]))).trans (hg1.block j hj hne')⟩
 ·simp [setBlock,hz1]
 exact run_entry_at _ r b ents.length seen.toArray (entsL ents).toArray ents.length (entOf i ents[i]) (sb_same hlt1 _) ((sb_other w1 _ (Ne.symm hne)).trans hb1) (List.mem_of_getElem? (entsL_get ents i hl)) (by rw [entsL_born];exact List.nodup_range)
end
end Go.Proofs.YtfbbkmdhnkmonaaGreatDoor
namespace Go.Proofs.YtfbbkmdhnkmonaaGreatDoor
open Go.RowKit
def PEnd (R:Nat) (s:ByteArray) (p:Nat->PR) (st:GSt) (w:World) (e:Ending) (w':World):Prop :=
 KeepR R w w'/\∃fu r,p fu=some r/\match r with
  | .ok (g,st1)=>(∃cs:List Value,e=.returned (.agg cs.toArray)/\GIs (fun k=>k<w.heap.size) w' g cs)/\RdIs R w' s st1/\GS s st1/\st.pos<=st1.pos
  | .error a=>e=faultE a
def SubC (R:Nat) (s:ByteArray) (N:Nat) (F:FuncId) (nt:NT):Prop :=
 ∀(st:GSt) (w:World),s.size-st.pos<N->GS s st->RdIs R w s st->GW R w->Calls Tryz.prog F #[.pointer (some ⟨R,0,none⟩)] w (PEnd R s (fun fu=>pars s fu nt st) st w)
theorem GIs.len {X:Nat->Prop} {w:World} {t:GT} {cs:List Value} (h:GIs X w t cs):cs.length=4:=by
 obtain ⟨_,_,_,_,_,_,rfl⟩:=h.four;rfl
def Cont (s:ByteArray) (nt:NT) (kinds:ByteArray->Option Nat) (P:Nat->PR) (g:GT) (st:GSt):Prop :=
 ∀fu r,rowL s (pars s fu nt) kinds fu g st=some r->∃fu',P fu'=some r
theorem cont_first {s:ByteArray} {nt:NT} {kinds:ByteArray->Option Nat} {st st1:GSt} {g:GT} {fu0:Nat} (h:pars s fu0 nt st=some (.ok (g,st1))) :
  Cont s nt kinds (fun fu=>thenP (pars s fu nt st) fun g st1=>rowL s (pars s fu nt) kinds fu g st1) g st1:=by
 intro fu r hr
 refine ⟨max fu0 fu,?_⟩
 show thenP (pars s (max fu0 fu) nt st) _=_
 rw [pars_up (Nat.le_max_left fu0 fu) nt _ _ h]
 exact rowL_up (pars_up (Nat.le_max_right fu0 fu) nt) kinds fu _ _ _ _ (Nat.le_max_right fu0 fu) hr
theorem cont_next {s:ByteArray} {nt:NT} {kinds:ByteArray->Option Nat} {P:Nat->PR} {st st1 st2:GSt} {g h:GT} {k fu0:Nat} (hc:Cont s nt kinds P g st) (hk:kinds st.now=some k) (hs:stepB s st.i=.ok st1)
  (hp:pars s fu0 nt st1=some (.ok (h,st2))):Cont s nt kinds P (.two k g h) st2:=by
 intro fu r hr
 refine hc (max fu0 fu+1) r ?_
 rw [rowL,hk]
 simp only [hs]
 rw [pars_up (by omega:fu0<=max fu0 fu+1) nt _ _ hp]
 exact rowL_up (pars_up (by omega:fu<=max fu0 fu+1) nt) kinds fu _ _ _ _ (Nat.le_max_right fu0 fu) hr
theorem cont_end {s:ByteArray} {nt:NT} {kinds:ByteArray->Option Nat} {P:Nat->PR} {st:GSt} {g:GT} (hc:Cont s nt kinds P g st) (hk:kinds st.now=none):∃fu',P fu'=some (.ok (g,st)) :=
 hc 1 _ (by rw [rowL,hk])
theorem cont_step_err {s:ByteArray} {nt:NT} {kinds:ByteArray->Option Nat} {P:Nat->PR} {st:GSt} {g:GT} {k a:Nat} (hc:Cont s nt kinds P g st) (hk:kinds st.now=some k) (hs:stepB s st.i=.error a):∃fu',P fu'=some (.error a) :=
 hc 1 _ (by rw [rowL,hk];simp only [hs])
theorem cont_sub_err {s:ByteArray} {nt:NT} {kinds:ByteArray->Option Nat} {P:Nat->PR} {st st1:GSt} {g:GT} {k fu0 a:Nat} (hc:Cont s nt kinds P g st) (hk:kinds st.now=some k) (hs:stepB s st.i=.ok st1)
  (hp:pars s fu0 nt st1=some (.error a)):∃fu',P fu'=some (.error a) :=
 hc (fu0+1) _ (by rw [rowL,hk];simp only [hs];rw [pars_up (Nat.le_succ fu0) nt _ _ hp])
theorem GS.max {s:ByteArray} {st:GSt} (h:GS s st) (hs:s.size<=17000):st.now.size<=maxLen:=Nat.le_trans h.short (Nat.le_trans hs (by decide))
def posI (R:Nat) (w:World):Nat:=(intOf ((w.cell? ⟨R,2,none⟩).getD undef)).toNat
theorem posI_eq {R:Nat} {w:World} {s:ByteArray} {st:GSt} (h:RdIs R w s st):posI R w=st.pos:=by
 rw [posI,(rd_cells h).2.2.1];simp [intOf]
theorem zeroU8 (W:World):(zeroValue 5).run Tryz.prog W=.ok (.int .u8 0) W:=Tryz.zeroValue5 W
abbrev zeroG:List Value:=[.int .u8 0,.int .i64 0,.string ⟨#[]⟩,.slice none 0 0]
structure RowSt (R:Nat) (s:ByteArray) (w:World) (mb:Nat) (ents:Ents) (gb:Nat) (nt:NT) (kinds:ByteArray->Option Nat) (P:Nat->PR) (st:GSt) (wr:World) (st1:GSt) (g:GT) (cs:List Value):Prop where
 rd:RdIs R wr s st1
 gs:GS s st1
 keep:KeepR R w wr
 map:MapIs wr mb ents
 out:Arr wr w.heap.size 80 zeroG
 cell:Arr wr gb 80 cs
 gis:GIs (fun k=>k<w.heap.size+1\/k=gb) wr g cs
 cont:Cont s nt kinds P g st1
 pos:st.pos<=st1.pos
theorem row_next {R:Nat} {s:ByteArray} {w:World} {mb:Nat} {ents:Ents} {gb:Nat} {nt:NT} {kinds:ByteArray->Option Nat} {P:Nat->PR} {st:GSt} {wr:World} {st1:GSt} {g:GT} {cs:List Value} (h:RowSt R s w mb ents gb nt kinds P st wr st1 g cs)
  {w6:World} (hk:KeepR R wr w6) {st5:GSt} (hr:RdIs R w6 s st5) {c0 c1 c2 c3 d0 d1 d2 d3:Value} (hc:Arr w6 gb 80 [c0,c1,c2,c3]) (hg:GS s st5) {g7:GT} (hct:Cont s nt kinds P g7 st5)
  (hx:GIs (fun k=>k<w.heap.size+1\/k=gb) w6 g7 [d0,d1,d2,d3]) (hp:st.pos<=st5.pos) (hRw:R<w.heap.size) (hgb:w.heap.size<gb) (hmb:mb≠gb) (hmR:mb≠R) :
  RowSt R s w mb ents gb nt kinds P st ((((w6.setCell ⟨gb,0,none⟩ d0).setCell ⟨gb,1,none⟩ d1).setCell ⟨gb,2,none⟩ d2).setCell ⟨gb,3,none⟩ d3) st5 g7 [d0,d1,d2,d3]:=by
 have hK:∀ {W:World} (j:Nat) (v:Value),KeepR R w W->KeepR R w (W.setCell ⟨gb,j,none⟩ v):=fun j v h=>h.setNew (p:=⟨gb,j,none⟩) (by show _<=gb;omega) v
 have hF:∀ {W:World} (j:Nat) (v:Value),RdIs R W s st5->RdIs R (W.setCell ⟨gb,j,none⟩ v) s st5:=fun j v h=>Arr.far h (a:=⟨gb,j,none⟩) (by show R≠gb;omega) v
 have hX:∀ {W:World} (j:Nat) (v:Value),GIs (fun k=>k<w.heap.size+1\/k=gb) W g7 [d0,d1,d2,d3]->GIs (fun k=>k<w.heap.size+1\/k=gb) (W.setCell ⟨gb,j,none⟩ v) g7 [d0,d1,d2,d3]:=fun j v h=>h.setCell (p:=⟨gb,j,none⟩) (.inr rfl) v
 have hM:∀ {W:World} (j:Nat) (v:Value),MapIs W mb ents->MapIs (W.setCell ⟨gb,j,none⟩ v) mb ents:=fun j v h=>h.setCell (a:=⟨gb,j,none⟩) hmb v
 have hO:∀ {W:World} (j:Nat) (v:Value),Arr W w.heap.size 80 zeroG->Arr (W.setCell ⟨gb,j,none⟩ v) w.heap.size 80 zeroG:=fun j v h=>Arr.far h (a:=⟨gb,j,none⟩) (by show w.heap.size≠gb;omega) v
 have hm6:MapIs w6 mb ents:=h.map.kept (hk.block mb h.map.lt hmR)
 exact ⟨hF 3 _ (hF 2 _ (hF 1 _ (hF 0 _ hr))),hg,hK 3 _ (hK 2 _ (hK 1 _ (hK 0 _ (h.keep.trans hk)))),hM 3 _ (hM 2 _ (hM 1 _ (hM 0 _ hm6))),hO 3 _ (hO 2 _ (hO 1 _ (hO 0 _ (h.out.keepR hk (by omega))))),
  (((hc.set 0 d0).set 1 d1).set 2 d2).set 3 d3,hX 3 _ (hX 2 _ (hX 1 _ (hX 0 _ hx))),hct,hp⟩
theorem row_walk {R:Nat} {s:ByteArray} {N:Nat} {F:FuncId} {nt:NT} {kinds:ByteArray->Option Nat} {ents:Ents} {mb:Nat} (hs:s.size<=17000) (hE:∀(args:Array Value) (w:World),(callFunc F args).run Tryz.prog w=.ok (.enter F args) w) (hsub:SubC R s N F nt)
  (hk:∀x,getM ents x=(kinds x).map fun (k:Nat)=>Value.int .u8 (k:Int)) (hne:∀x k,kinds x=some k->x.size≠0) (st:GSt) (w:World) (hM:s.size-st.pos<N) (hg:GS s st) (h:RdIs R w s st) (hv:GW R w) (hm:MapIs w mb ents) (hmb:mb≠R) :
  Calls Tryz.prog 117 #[.pointer (some ⟨R,0,none⟩),.func (.func F) #[.pointer (some ⟨R,0,none⟩)] #[],.map (some mb)] w (PEnd R s (fun fu=>thenP (pars s fu nt st) fun g st1=>rowL s (pars s fu nt) kinds fu g st1) st w):=by
 have HR0:=hid h
 have HV0:=hid hv
 have HM0:=hid hm
 have HG0:=hid hg
 have HSUB:=hid hsub
 have HK:=hid hk
 have HNE:=hid hne
 obtain ⟨P,hP⟩:∃P:Nat->PR,(fun fu=>thenP (pars s fu nt st) fun g st1=>rowL s (pars s fu nt) kinds fu g st1)=P:=⟨_,rfl⟩
 have HP:=hid hP
 rw [hP]
 clear h hv hm hg hsub hk hne hP
 go_enter Tryz.func117,Tryz.ntmps117
 go_wp2_with fail
 refine (HSUB.out st _ hM HG0.out (Arr.alloc HR0.out _) (HV0.out.keep (.of ((Below.refl _ _).alloc (Nat.le_refl _) _)))).mono ?_
 rintro e w2 ⟨hk2,fu0,r0,hr0,h2⟩
 replace hr0:pars s fu0 nt st=some r0:=hr0
 have hRw:R<w.heap.size:=Arr.lt HR0.out
 have HK2:=hid ((KeepR.of ((Below.refl w.heap.size w).alloc (Nat.le_refl _) (.cells #[.int .u8 0,.int .i64 0,.string ⟨#[]⟩,.slice none 0 0] 80))).trans hk2)
 have hp2:w.heap.size<w2.heap.size:=by have:=hk2.size;rw [size_alloc] at this;omega
 have HA2:=hid ((Arr.new w [.int .u8 0,.int .i64 0,.string ⟨#[]⟩,.slice none 0 0] 80).keepR hk2 (by omega))
 clear hk2
 cases r0 with
 | error a =>
  simp only at h2
  subst h2
  exact ⟨rfl,HK2.out,fu0,.error a,by rw [<-HP.out];show thenP (pars s fu0 nt st) _=_;rw [hr0];rfl,rfl⟩
 | ok gs =>
  obtain ⟨g,st1⟩:=gs
  obtain ⟨⟨cs,rfl,hgi⟩,hr1,hg1,hpos⟩:=h2
  have HC1:=cont_first (kinds:=kinds) hr0
  rw [HP.out] at HC1
  replace HC1:=hid HC1
  have hX1:GIs (fun k=>k<w.heap.size+1\/k=w2.heap.size) w2 g cs:=hgi.mono (fun k hk h=>by rw [size_alloc];omega)
  have hm2:MapIs w2 mb ents:=HM0.out.kept (HK2.out.block mb HM0.out.lt hmb)
  have hmb2:mb≠w2.heap.size:=by have:=hm2.lt;omega
  have HG1:=hid hg1
  obtain ⟨k1,n1,s1,a1,l1,c1,rfl⟩:=hgi.four
  have HR3:=hid (Arr.alloc hr1 (.cells #[.int .u8 k1,.int .i64 n1,.string s1,.slice a1 l1 c1] 80))
  have HA3:=hid (HA2.out.alloc (.cells #[.int .u8 k1,.int .i64 n1,.string s1,.slice a1 l1 c1] 80))
  have HB3:=hid (Arr.new w2 [.int .u8 k1,.int .i64 n1,.string s1,.slice a1 l1 c1] 80)
  have HM3:=hid (hm2.alloc (.cells #[.int .u8 k1,.int .i64 n1,.string s1,.slice a1 l1 c1] 80))
  have HK3:=hid (HK2.out.alloc (.cells #[.int .u8 k1,.int .i64 n1,.string s1,.slice a1 l1 c1] 80))
  have HG3:=hid (hX1.below ((Below.refl w2.heap.size w2).alloc (Nat.le_refl _) (.cells #[.int .u8 k1,.int .i64 n1,.string s1,.slice a1 l1 c1] 80)))
  obtain ⟨x0,x1,x2,x3⟩:=rd_cells HR3.out
  have hlk:=HM3.out.lookup Tryz.underlying178 Tryz.underlying9 zeroU8 (k:=st1.now) (HG1.out.max hs)
  have hgb1:w.heap.size<w2.heap.size:=hp2
  clear hr0 hgi hr1 hX1 hm2
  go_upto_region 2 with fail
  generalize w2.alloc (.cells #[.int .u8 k1,.int .i64 n1,.string s1,.slice a1 l1 c1] 80)=w3 at *
  have HRow:Hid (RowSt R s w mb ents w2.heap.size nt kinds P st w3 st1 g [.int .u8 k1,.int .i64 n1,.string s1,.slice a1 l1 c1]):=⟨HR3.out,HG1.out,HK3.out,HM3.out,HA3.out,HB3.out,HG3.out,HC1.out,hpos⟩
  clear HR3 HG1 HK3 HM3 HA3 HB3 HG3 HC1 hpos HA2 HK2 hp2 hg1
  generalize w2.heap.size=gb at *
  go_wp2_with fail
  clear hlk x0 x1 x2 x3
  go_loopw [8,9] (fun t8 t9 wr=>∃st1 g cs,t8=(getM ents st1.now).getD (.int .u8 0)/\t9=.bool (getM ents st1.now).isSome/\Hid (RowSt R s w mb ents gb nt kinds P st wr st1 g cs)) (fun _ _ wr=>s.size-posI R wr)
  case atStart=>exact ⟨st1,g,_,rfl,rfl,HRow⟩
  clear HRow
  obtain ⟨st2,g2,cs2,rfl,rfl,HW⟩:=hrel
  have hkn:=HK.out st2.now
  obtain ⟨x0,x1,x2,x3⟩:=rd_cells HW.out.rd
  cases hkd:kinds st2.now with
  | none =>
   rw [hkd] at hkn
   simp only [Option.map_none] at hkn
   rw [hkn]
   simp only [Option.getD_none,Option.isSome_none]
   have HKD:=hid hkd
   obtain ⟨q1,m1,z1,b1,l2,c2,rfl⟩:=HW.out.gis.four
   have y0:=HW.out.cell.cell (j:=0) (by simp)
   have y1:=HW.out.cell.cell (j:=1) (by simp)
   have y2:=HW.out.cell.cell (j:=2) (by simp)
   have y3:=HW.out.cell.cell (j:=3) (by simp)
   have f0:=HW.out.out.frozen 0
   have f1:=HW.out.out.frozen 1
   have f2:=HW.out.out.frozen 2
   have f3:=HW.out.out.frozen 3
   have o0:=HW.out.out.cell (j:=0) (by simp)
   have o1:=HW.out.out.cell (j:=1) (by simp)
   have o2:=HW.out.out.cell (j:=2) (by simp)
   have o3:=HW.out.out.cell (j:=3) (by simp)
   simp only [gE0,gE1] at y0 y1 y2 y3 o0 o1 o2 o3
   clear hkd hkn
   go_wp2_with fail
   refine ret_guard (fn:=Tryz.f117) rfl (g:=w.heap.size) (cs:=[.int .u8 q1,.int .i64 m1,.string z1,.slice b1 l2 c2]) rfl rfl rfl ((((HW.out.out.set 0 _).set 1 _).set 2 _).set 3 _) ?_
   obtain ⟨fu',hfu⟩:=cont_end HW.out.cont HKD.out
   have hX0:∀ {W:World} (j:Nat) (v:Value),GIs (fun k=>k<w.heap.size+1\/k=gb) W g2 [.int .u8 q1,.int .i64 m1,.string z1,.slice b1 l2 c2]->GIs (fun k=>k<w.heap.size+1\/k=gb) (W.setCell ⟨w.heap.size,j,none⟩ v) g2 [.int .u8 q1,.int .i64 m1,.string z1,.slice b1 l2 c2]:=fun j v h=>h.setCell (p:=⟨w.heap.size,j,none⟩) (.inl (Nat.lt_succ_self _)) v
   have hK0:∀ {W:World} (j:Nat) (v:Value),KeepR R w W->KeepR R w (W.setCell ⟨w.heap.size,j,none⟩ v):=fun j v h=>h.setNew (p:=⟨w.heap.size,j,none⟩) (Nat.le_refl _) v
   have hF0:∀ {W:World} (j:Nat) (v:Value),RdIs R W s st2->RdIs R (W.setCell ⟨w.heap.size,j,none⟩ v) s st2:=fun j v h=>Arr.far h (a:=⟨w.heap.size,j,none⟩) (by show R≠w.heap.size;omega) v
   exact ⟨hK0 3 _ (hK0 2 _ (hK0 1 _ (hK0 0 _ HW.out.keep))),fu',_,hfu,⟨_,rfl,(hX0 3 _ (hX0 2 _ (hX0 1 _ (hX0 0 _ HW.out.gis)))).mono (fun k _ h=>.inl (Nat.lt_succ_of_lt h))⟩,hF0 3 _ (hF0 2 _ (hF0 1 _ (hF0 0 _ HW.out.rd))),HW.out.gs,HW.out.pos⟩
  | some k =>
   rw [hkd] at hkn
   simp only [Option.map_some] at hkn
   rw [hkn]
   simp only [Option.getD_some,Option.isSome_some]
   have HKD:=hid hkd
   have hRwr:R<wr.heap.size:=Arr.lt HW.out.rd
   have hNE:=HNE.out _ _ hkd
   clear hkd hkn
   obtain ⟨X,hX⟩:∃X,stepB s st2.i=X:=⟨_,rfl⟩
   have HX:=hid hX
   have hst:=step_walk R s st2 wr hs HW.out.gs.le HW.out.rd (HV0.out.keep HW.out.keep)
   rw [hX] at hst
   have HST:=hid hst
   clear hX hst
   go_wp2_with fail
   refine HST.out.mono ?_
   rintro e w4 ⟨hk4,h4⟩
   have HK4:=hid hk4
   clear HST hk4
   cases X with
   | error a =>
    simp only at h4
    subst h4
    obtain ⟨fu',hfu⟩:=cont_step_err HW.out.cont HKD.out HX.out
    exact ⟨rfl,HW.out.keep.trans HK4.out,fu',_,hfu,rfl⟩
   | ok st3 =>
    obtain ⟨rfl,hr4⟩:=h4
    obtain ⟨hg4,hp4⟩:=step_gs HW.out.gs.le HX.out
    have hlt4:st2.pos<st3.pos:=by rcases HW.out.gs.adv with h | h<;>omega
    have HG4:=hid hg4
    have HR4:=hid hr4
    have HV4:=hid (HV0.out.keep (HW.out.keep.trans HK4.out))
    obtain ⟨q1,m1,z1,b1,l2,c2,rfl⟩:=HW.out.gis.four
    have hgbR:gb≠R:=by omega
    have hpp:=HW.out.pos
    have HC4:=hid (HW.out.cell.keepR HK4.out hgbR)
    have y0:=HC4.out.cell (j:=0) (by simp)
    have y1:=HC4.out.cell (j:=1) (by simp)
    have y2:=HC4.out.cell (j:=2) (by simp)
    have y3:=HC4.out.cell (j:=3) (by simp)
    simp only [gE0,gE1] at y0 y1 y2 y3
    clear hg4 hr4 x0 x1 x2 x3 hNE
    go_wp2_with fail
    refine wp_region_held_drew (S:=fun _=>True) (by kernel_rfl) trivial (fun hH=>?_)
    have HR5:=hid (Arr.drew HR4.out)
    have HC5:=hid (Arr.drew HC4.out)
    have HK5:=hid (KeepR.drew HK4.out)
    have HV5:=hid (HV4.out.keep (KeepR.drew (KeepR.refl R w4)))
    clear HR4 HC4 HK4 HV4
    replace y0:=HC5.out.cell (j:=0) (by simp)
    replace y1:=HC5.out.cell (j:=1) (by simp)
    replace y2:=HC5.out.cell (j:=2) (by simp)
    replace y3:=HC5.out.cell (j:=3) (by simp)
    simp only [gE0,gE1] at y0 y1 y2 y3
    generalize w4.drew=Wd at *
    refine tK (i:=0) (oi:=⟨some 35,.move (.tmp 8),5,"guard.go:115",#[],none⟩) (v:=.int .u8 k) (Or.inl ⟨by rfl,fun W hS=>by go_simp⟩) hH ?_
    refine tK (i:=2) (oi:=⟨some 37,.move (.tmp 1),130,"guard.go:115",#[],none⟩) (v:=.func (.func F) #[.pointer (some ⟨R,0,none⟩)] #[]) (Or.inl ⟨by rfl,fun W hS=>by go_simp⟩) hH ?_
    refine rD [1,3] ?_
    refine AllReadyH.cons rfl (fun K hK=>?_) (AllReadyH.cons rfl (fun K hK=>?_) AllReadyH.nil)
    ·go_simp
     refine kK hK trivial (fun hH=>?_)
     clear hK K
     refine rD [3] ?_
     refine AllReadyH.cons rfl (fun K hK=>?_) AllReadyH.nil
     go_simp
     refine (HSUB.out st3 Wd (by omega) HG4.out HR5.out HV5.out).mono ?_
     rintro e w5 ⟨hk5,fu5,r5,hr5,h5⟩
     replace hr5:pars s fu5 nt st3=some r5:=hr5
     rcases r5 with a | gs
     ·simp only at h5
      subst h5
      obtain ⟨fu2,hfu⟩:=cont_sub_err HW.out.cont HKD.out HX.out hr5
      exact ⟨rfl,(HW.out.keep.trans HK5.out).trans hk5,fu2,_,hfu,rfl⟩
     obtain ⟨g5,st5⟩:=gs
     obtain ⟨⟨cs5,rfl,hgi5⟩,hr6,hg6,hpos6⟩:=h5
     have HCONT:=hid (cont_next HW.out.cont HKD.out HX.out hr5)
     have HX5:=hid (GIs.keepR (X:=fun k=>k<w.heap.size+1\/k=gb) (Or.inl (by omega)) (HK5.out.trans hk5) HW.out.gis)
     have HX6:=hid (hgi5.mono (Y:=fun k=>k<w.heap.size+1\/k=gb) (fun k _ h=>by have:=HC5.out.lt;have:=HK5.out.size;have:=HW.out.out.lt;omega))
     have HC6:=hid (HC5.out.keepR hk5 hgbR)
     have HR6:=hid hr6
     have HG6:=hid hg6
     have HK6:=hid (HK5.out.trans hk5)
     obtain ⟨q5,m5,z5,b5,l5,c5,rfl⟩:=hgi5.four
     replace y0:=HC6.out.cell (j:=0) (by simp)
     replace y1:=HC6.out.cell (j:=1) (by simp)
     replace y2:=HC6.out.cell (j:=2) (by simp)
     replace y3:=HC6.out.cell (j:=3) (by simp)
     simp only [gE0,gE1] at y0 y1 y2 y3
     clear hk5 hr5 hgi5 hr6 hg6
     refine kK hK trivial (fun hH=>?_)
     clear hK K
     refine rD [4] ?_
     refine AllReadyH.cons rfl (fun K hK=>?_) AllReadyH.nil
     go_simp
     refine (two_walk (fun k=>k<w.heap.size+1\/k=gb) k g2 g5 [.int .u8 q1,.int .i64 m1,.string z1,.slice b1 l2 c2] [.int .u8 q5,.int .i64 m5,.string z5,.slice b5 l5 c5] w5 (fun k h=>by have:=HC6.out.lt;omega) HX5.out HX6.out).mono ?_
     rintro e w6 ⟨hb6,cs6,rfl,hgi6⟩
     have HC7:=hid (Arr.below HC6.out hb6 HC6.out.lt)
     have HR7:=hid (Arr.below HR6.out hb6 (Arr.lt HR6.out))
     have HK7:=hid (HK6.out.next hb6)
     have HX7:=hid hgi6
     obtain ⟨q6,m6,z6,b6,l6,c6,rfl⟩:=hgi6.four
     have f0:=HC7.out.frozen 0
     have f1:=HC7.out.frozen 1
     have f2:=HC7.out.frozen 2
     have f3:=HC7.out.frozen 3
     replace y0:=HC7.out.cell (j:=0) (by simp)
     replace y1:=HC7.out.cell (j:=1) (by simp)
     replace y2:=HC7.out.cell (j:=2) (by simp)
     replace y3:=HC7.out.cell (j:=3) (by simp)
     simp only [gE0,gE1] at y0 y1 y2 y3
     clear hb6 hgi6
     refine kK hK trivial (fun hH=>?_)
     clear hK K
     refine rD [5] ?_
     refine AllReadyH.cons rfl (fun K hK=>?_) AllReadyH.nil
     go_simp
     refine kK hK trivial (fun hH=>?_)
     clear hK K
     refine wpAnyH_done (by kernel_rfl) ?_ _
     have HROW:=hid (row_next HW.out HK7.out HR7.out HC7.out HG6.out HCONT.out HX7.out (by omega) hRw hgb1 hmb2 hmb)
     generalize ((((w6.setCell ⟨gb,0,none⟩ (.int .u8 q6)).setCell ⟨gb,1,none⟩ (.int .i64 m6)).setCell ⟨gb,2,none⟩ (.string z6)).setCell ⟨gb,3,none⟩ (.slice b6 l6 c6))=w7 at *
     clear HR5 HC5 HK5 HV5 HC6 HR6 HK6 HX5 HX6 HC7 HR7 HK7 HX7 y0 y1 y2 y3 f0 f1 f2 f3 HG4
     obtain ⟨x0,x1,x2,x3⟩:=rd_cells HROW.out.rd
     have hlk:=HROW.out.map.lookup Tryz.underlying178 Tryz.underlying9 zeroU8 (k:=st5.now) (HG6.out.max hs)
     go_wp2_with fail
     exact ⟨⟨st5,_,_,rfl,rfl,HROW⟩,by rw [posI_eq HROW.out.rd,posI_eq HW.out.rd];have:=HG6.out.pos;have:=HG6.out.le;omega⟩
    go_simp
    refine (HSUB.out st3 Wd (by omega) HG4.out HR5.out HV5.out).mono ?_
    rintro e w5 ⟨hk5,fu5,r5,hr5,h5⟩
    replace hr5:pars s fu5 nt st3=some r5:=hr5
    rcases r5 with a | gs
    ·simp only at h5
     subst h5
     obtain ⟨fu2,hfu⟩:=cont_sub_err HW.out.cont HKD.out HX.out hr5
     exact ⟨rfl,(HW.out.keep.trans HK5.out).trans hk5,fu2,_,hfu,rfl⟩
    obtain ⟨g5,st5⟩:=gs
    obtain ⟨⟨cs5,rfl,hgi5⟩,hr6,hg6,hpos6⟩:=h5
    have HCONT:=hid (cont_next HW.out.cont HKD.out HX.out hr5)
    have HX5:=hid (GIs.keepR (X:=fun k=>k<w.heap.size+1\/k=gb) (Or.inl (by omega)) (HK5.out.trans hk5) HW.out.gis)
    have HX6:=hid (hgi5.mono (Y:=fun k=>k<w.heap.size+1\/k=gb) (fun k _ h=>by have:=HC5.out.lt;have:=HK5.out.size;have:=HW.out.out.lt;omega))
    have HC6:=hid (HC5.out.keepR hk5 hgbR)
    have HR6:=hid hr6
    have HG6:=hid hg6
    have HK6:=hid (HK5.out.trans hk5)
    obtain ⟨q5,m5,z5,b5,l5,c5,rfl⟩:=hgi5.four
    replace y0:=HC6.out.cell (j:=0) (by simp)
    replace y1:=HC6.out.cell (j:=1) (by simp)
    replace y2:=HC6.out.cell (j:=2) (by simp)
    replace y3:=HC6.out.cell (j:=3) (by simp)
    simp only [gE0,gE1] at y0 y1 y2 y3
    clear hk5 hr5 hgi5 hr6 hg6
    refine kK hK trivial (fun hH=>?_)
    clear hK K
    refine rD [1] ?_
    refine AllReadyH.cons rfl (fun K hK=>?_) AllReadyH.nil
    go_simp
    refine kK hK trivial (fun hH=>?_)
    clear hK K
    refine rD [4] ?_
    refine AllReadyH.cons rfl (fun K hK=>?_) AllReadyH.nil
    go_simp
    refine (two_walk (fun k=>k<w.heap.size+1\/k=gb) k g2 g5 [.int .u8 q1,.int .i64 m1,.string z1,.slice b1 l2 c2] [.int .u8 q5,.int .i64 m5,.string z5,.slice b5 l5 c5] w5 (fun k h=>by have:=HC6.out.lt;omega) HX5.out HX6.out).mono ?_
    rintro e w6 ⟨hb6,cs6,rfl,hgi6⟩
    have HC7:=hid (Arr.below HC6.out hb6 HC6.out.lt)
    have HR7:=hid (Arr.below HR6.out hb6 (Arr.lt HR6.out))
    have HK7:=hid (HK6.out.next hb6)
    have HX7:=hid hgi6
    obtain ⟨q6,m6,z6,b6,l6,c6,rfl⟩:=hgi6.four
    have f0:=HC7.out.frozen 0
    have f1:=HC7.out.frozen 1
    have f2:=HC7.out.frozen 2
    have f3:=HC7.out.frozen 3
    replace y0:=HC7.out.cell (j:=0) (by simp)
    replace y1:=HC7.out.cell (j:=1) (by simp)
    replace y2:=HC7.out.cell (j:=2) (by simp)
    replace y3:=HC7.out.cell (j:=3) (by simp)
    simp only [gE0,gE1] at y0 y1 y2 y3
    clear hb6 hgi6
    refine kK hK trivial (fun hH=>?_)
    clear hK K
    refine rD [5] ?_
    refine AllReadyH.cons rfl (fun K hK=>?_) AllReadyH.nil
    go_simp
    refine kK hK trivial (fun hH=>?_)
    clear hK K
    refine wpAnyH_done (by kernel_rfl) ?_ _
    have HROW:=hid (row_next HW.out HK7.out HR7.out HC7.out HG6.out HCONT.out HX7.out (by omega) hRw hgb1 hmb2 hmb)
    generalize ((((w6.setCell ⟨gb,0,none⟩ (.int .u8 q6)).setCell ⟨gb,1,none⟩ (.int .i64 m6)).setCell ⟨gb,2,none⟩ (.string z6)).setCell ⟨gb,3,none⟩ (.slice b6 l6 c6))=w7 at *
    clear HR5 HC5 HK5 HV5 HC6 HR6 HK6 HX5 HX6 HC7 HR7 HK7 HX7 y0 y1 y2 y3 f0 f1 f2 f3 HG4
    obtain ⟨x0,x1,x2,x3⟩:=rd_cells HROW.out.rd
    have hlk:=HROW.out.map.lookup Tryz.underlying178 Tryz.underlying9 zeroU8 (k:=st5.now) (HG6.out.max hs)
    go_wp2_with fail
    exact ⟨⟨st5,_,_,rfl,rfl,HROW⟩,by rw [posI_eq HROW.out.rd,posI_eq HW.out.rd];have:=HG6.out.pos;have:=HG6.out.le;omega⟩
theorem store4 {R:Nat} {w W:World} {s:ByteArray} {st:GSt} {g:GT} {b:Nat} {X:Nat->Prop} {c0 c1 c2 c3 d0 d1 d2 d3:Value} {cs:List Value} (hk:KeepR R w W) (hb:w.heap.size<=b) (hR:R≠b) (hr:RdIs R W s st) (hX:X b) (hx:GIs X W g cs)
  (ha:Arr W b 80 [c0,c1,c2,c3]) :
  KeepR R w ((((W.setCell ⟨b,0,none⟩ d0).setCell ⟨b,1,none⟩ d1).setCell ⟨b,2,none⟩ d2).setCell ⟨b,3,none⟩ d3)/\RdIs R ((((W.setCell ⟨b,0,none⟩ d0).setCell ⟨b,1,none⟩ d1).setCell ⟨b,2,none⟩ d2).setCell ⟨b,3,none⟩ d3) s st /\
   GIs X ((((W.setCell ⟨b,0,none⟩ d0).setCell ⟨b,1,none⟩ d1).setCell ⟨b,2,none⟩ d2).setCell ⟨b,3,none⟩ d3) g cs /\
   Arr ((((W.setCell ⟨b,0,none⟩ d0).setCell ⟨b,1,none⟩ d1).setCell ⟨b,2,none⟩ d2).setCell ⟨b,3,none⟩ d3) b 80 [d0,d1,d2,d3]:=by
 have hK:∀ {W:World} (j:Nat) (v:Value),KeepR R w W->KeepR R w (W.setCell ⟨b,j,none⟩ v):=fun j v h=>h.setNew (p:=⟨b,j,none⟩) hb v
 have hF:∀ {W:World} (j:Nat) (v:Value),RdIs R W s st->RdIs R (W.setCell ⟨b,j,none⟩ v) s st:=fun j v h=>Arr.far h (a:=⟨b,j,none⟩) hR v
 have hG:∀ {W:World} (j:Nat) (v:Value),GIs X W g cs->GIs X (W.setCell ⟨b,j,none⟩ v) g cs:=fun j v h=>h.setCell (p:=⟨b,j,none⟩) hX v
 exact ⟨hK 3 _ (hK 2 _ (hK 1 _ (hK 0 _ hk))),hF 3 _ (hF 2 _ (hF 1 _ (hF 0 _ hr))),hG 3 _ (hG 2 _ (hG 1 _ (hG 0 _ hx))),(((ha.set 0 d0).set 1 d1).set 2 d2).set 3 d3⟩
theorem guard_sub {R:Nat} {s:ByteArray} {N:Nat} (hs:s.size<=17000) (hsub:SubC R s N 118 .side):SubC R s N 80 .guard:=by
 intro st w hM hg h hv
 have hRw:R<w.heap.size:=Arr.lt h
 obtain ⟨w2,hu,hM2,hg2,hz2⟩:=(MapIs.made (w.alloc (.cells #[.int .u8 0,.int .i64 0,.string ⟨#[]⟩,.slice none 0 0] 80))).update Tryz.underlying178 Tryz.underlying9 (k:=orS) (by decide) (.int .u8 10)
 rw [size_alloc] at hu hM2 hg2 hz2
 have hb1:Below w.heap.size w ((w.alloc (.cells #[.int .u8 0,.int .i64 0,.string ⟨#[]⟩,.slice none 0 0] 80)).alloc (.map #[] 0)):=((Below.refl _ _).alloc (Nat.le_refl _) _).alloc (by rw [size_alloc];omega) _
 have hb2:Below w.heap.size w w2:=hb1.grown hg2 (by rw [size_alloc,size_alloc];omega) (fun j hj=>by cases hj;omega)
 have hA2:Arr w2 w.heap.size 80 zeroG:=⟨(hg2.block _ (by rw [size_alloc,size_alloc];omega) (fun e=>by have:=Option.some.inj e;omega)).trans (Arr.alloc (Arr.new w zeroG 80) (.map #[] 0)).heap⟩
 have HB2:=hid hb2
 have HA2:=hid hA2
 have HRW:=hid (row_walk (F:=118) (kinds:=kOr) (ents:=(putM [] orS (.int .u8 10))) hs (enters_of Tryz.func118 (by kernel_rfl) rfl) hsub (fun x=>by
  by_cases hx0:x=orS
  ·subst hx0;rfl
  simp [putM,getM,kOr,hx0,Ne.symm hx0]) (fun x k hk=>by
  unfold kOr at hk
  split at hk
  ·rename_i hx;subst hx;decide
  cases hk) st w2 hM hg (h.below hb2 hRw) (hv.keep (.of hb2)) hM2 (by omega))
 clear hb1 hb2 hA2 hM2 hg2 hsub
 have hmm:=@run_makeMap Tryz.prog
 go_enter Tryz.func80,Tryz.ntmps80
 go_wp2_with fail
 refine HRW.out.mono ?_
 rintro e w3 ⟨hk3,fu,r3,hr3,h3⟩
 have HK3:=hid ((KeepR.of HB2.out).trans hk3)
 clear HRW
 rcases r3 with a | gs
 ·simp only at h3
  subst h3
  exact ⟨rfl,HK3.out,fu+1,.error a,by show pars s (fu+1) .guard st=_;rw [pars];exact hr3,rfl⟩
 obtain ⟨g3,st3⟩:=gs
 obtain ⟨⟨cs3,rfl,hgi3⟩,hr4,hg4,hpos4⟩:=h3
 have HA3:=hid (HA2.out.keepR hk3 (by omega))
 have HX3:=hid hgi3
 have HR4:=hid hr4
 obtain ⟨q1,m1,z1,b1,l2,c2,rfl⟩:=hgi3.four
 have o0:=HA3.out.cell (j:=0) (by simp)
 have o1:=HA3.out.cell (j:=1) (by simp)
 have o2:=HA3.out.cell (j:=2) (by simp)
 have o3:=HA3.out.cell (j:=3) (by simp)
 have f0:=HA3.out.frozen 0
 have f1:=HA3.out.frozen 1
 have f2:=HA3.out.frozen 2
 have f3:=HA3.out.frozen 3
 simp only [gE0,gE1] at o0 o1 o2 o3
 have hsz2:w.heap.size<w2.heap.size:=HA2.out.lt
 clear hk3 hgi3 hr4
 go_wp2_with fail
 obtain ⟨k1,k2,k3,k4⟩:=store4 HK3.out (Nat.le_refl _) (by omega) HR4.out (X:=fun k=>k<w2.heap.size) hsz2 HX3.out HA3.out
 refine ret_guard (fn:=Tryz.f80) rfl (g:=w.heap.size) (cs:=[.int .u8 q1,.int .i64 m1,.string z1,.slice b1 l2 c2]) rfl rfl rfl k4 ?_
 exact ⟨k1,fu+1,.ok (g3,st3),by show pars s (fu+1) .guard st=_;rw [pars];exact hr3,⟨_,rfl,k3.mono (fun k _ h=>Nat.lt_trans h hsz2)⟩,k2,hg4,hpos4⟩
theorem side_sub {R:Nat} {s:ByteArray} {N:Nat} (hs:s.size<=17000) (hsub:SubC R s N 145 .part):SubC R s N 118 .side:=by
 intro st w hM hg h hv
 have hRw:R<w.heap.size:=Arr.lt h
 obtain ⟨w2,hu,hM2,hg2,hz2⟩:=(MapIs.made (w.alloc (.cells #[.int .u8 0,.int .i64 0,.string ⟨#[]⟩,.slice none 0 0] 80))).update Tryz.underlying178 Tryz.underlying9 (k:=andS) (by decide) (.int .u8 9)
 rw [size_alloc] at hu hM2 hg2 hz2
 have hb1:Below w.heap.size w ((w.alloc (.cells #[.int .u8 0,.int .i64 0,.string ⟨#[]⟩,.slice none 0 0] 80)).alloc (.map #[] 0)):=((Below.refl _ _).alloc (Nat.le_refl _) _).alloc (by rw [size_alloc];omega) _
 have hb2:Below w.heap.size w w2:=hb1.grown hg2 (by rw [size_alloc,size_alloc];omega) (fun j hj=>by cases hj;omega)
 have hA2:Arr w2 w.heap.size 80 zeroG:=⟨(hg2.block _ (by rw [size_alloc,size_alloc];omega) (fun e=>by have:=Option.some.inj e;omega)).trans (Arr.alloc (Arr.new w zeroG 80) (.map #[] 0)).heap⟩
 have HB2:=hid hb2
 have HA2:=hid hA2
 have HRW:=hid (row_walk (F:=145) (kinds:=kAnd) (ents:=(putM [] andS (.int .u8 9))) hs (enters_of Tryz.func145 (by kernel_rfl) rfl) hsub (fun x=>by
  by_cases hx0:x=andS
  ·subst hx0;rfl
  simp [putM,getM,kAnd,hx0,Ne.symm hx0]) (fun x k hk=>by
  unfold kAnd at hk
  split at hk
  ·rename_i hx;subst hx;decide
  cases hk) st w2 hM hg (h.below hb2 hRw) (hv.keep (.of hb2)) hM2 (by omega))
 clear hb1 hb2 hA2 hM2 hg2 hsub
 have hmm:=@run_makeMap Tryz.prog
 go_enter Tryz.func118,Tryz.ntmps118
 go_wp2_with fail
 refine HRW.out.mono ?_
 rintro e w3 ⟨hk3,fu,r3,hr3,h3⟩
 have HK3:=hid ((KeepR.of HB2.out).trans hk3)
 clear HRW
 rcases r3 with a | gs
 ·simp only at h3
  subst h3
  exact ⟨rfl,HK3.out,fu+1,.error a,by show pars s (fu+1) .side st=_;rw [pars];exact hr3,rfl⟩
 obtain ⟨g3,st3⟩:=gs
 obtain ⟨⟨cs3,rfl,hgi3⟩,hr4,hg4,hpos4⟩:=h3
 have HA3:=hid (HA2.out.keepR hk3 (by omega))
 have HX3:=hid hgi3
 have HR4:=hid hr4
 obtain ⟨q1,m1,z1,b1,l2,c2,rfl⟩:=hgi3.four
 have o0:=HA3.out.cell (j:=0) (by simp)
 have o1:=HA3.out.cell (j:=1) (by simp)
 have o2:=HA3.out.cell (j:=2) (by simp)
 have o3:=HA3.out.cell (j:=3) (by simp)
 have f0:=HA3.out.frozen 0
 have f1:=HA3.out.frozen 1
 have f2:=HA3.out.frozen 2
 have f3:=HA3.out.frozen 3
 simp only [gE0,gE1] at o0 o1 o2 o3
 have hsz2:w.heap.size<w2.heap.size:=HA2.out.lt
 clear hk3 hgi3 hr4
 go_wp2_with fail
 obtain ⟨k1,k2,k3,k4⟩:=store4 HK3.out (Nat.le_refl _) (by omega) HR4.out (X:=fun k=>k<w2.heap.size) hsz2 HX3.out HA3.out
 refine ret_guard (fn:=Tryz.f118) rfl (g:=w.heap.size) (cs:=[.int .u8 q1,.int .i64 m1,.string z1,.slice b1 l2 c2]) rfl rfl rfl k4 ?_
 exact ⟨k1,fu+1,.ok (g3,st3),by show pars s (fu+1) .side st=_;rw [pars];exact hr3,⟨_,rfl,k3.mono (fun k _ h=>Nat.lt_trans h hsz2)⟩,k2,hg4,hpos4⟩
theorem sum_sub {R:Nat} {s:ByteArray} {N:Nat} (hs:s.size<=17000) (hsub:SubC R s N 190 .product):SubC R s N 174 .sum:=by
 intro st w hM hg h hv
 have hRw:R<w.heap.size:=Arr.lt h
 obtain ⟨w2,hu,hM2,hg2,hz2⟩:=(MapIs.made (w.alloc (.cells #[.int .u8 0,.int .i64 0,.string ⟨#[]⟩,.slice none 0 0] 80))).update Tryz.underlying178 Tryz.underlying9 (k:=addS) (by decide) (.int .u8 13)
 rw [size_alloc] at hu hM2 hg2 hz2
 obtain ⟨w2',hu',hM2',hg2',hz2'⟩:=hM2.update Tryz.underlying178 Tryz.underlying9 (k:=subS) (by decide) (.int .u8 14)
 have hb1:Below w.heap.size w ((w.alloc (.cells #[.int .u8 0,.int .i64 0,.string ⟨#[]⟩,.slice none 0 0] 80)).alloc (.map #[] 0)):=((Below.refl _ _).alloc (Nat.le_refl _) _).alloc (by rw [size_alloc];omega) _
 have hb2:Below w.heap.size w w2:=hb1.grown hg2 (by rw [size_alloc,size_alloc];omega) (fun j hj=>by cases hj;omega)
 have hA2:Arr w2 w.heap.size 80 zeroG:=⟨(hg2.block _ (by rw [size_alloc,size_alloc];omega) (fun e=>by have:=Option.some.inj e;omega)).trans (Arr.alloc (Arr.new w zeroG 80) (.map #[] 0)).heap⟩
 have hb2':Below w.heap.size w w2':=hb2.grown hg2' (by have:=hb2.size;omega) (fun j hj=>by cases hj;omega)
 have hA2':Arr w2' w.heap.size 80 zeroG:=⟨(hg2'.block _ hA2.lt (fun e=>by have:=Option.some.inj e;omega)).trans hA2.heap⟩
 have HB2:=hid hb2'
 have HA2:=hid hA2'
 have HRW:=hid (row_walk (F:=190) (kinds:=kSum) (ents:=(putM (putM [] addS (.int .u8 13)) subS (.int .u8 14))) hs (enters_of Tryz.func190 (by kernel_rfl) rfl) hsub (fun x=>by
  by_cases hx0:x=addS
  ·subst hx0;rfl
  by_cases hx1:x=subS
  ·subst hx1;rfl
  simp [putM,getM,kSum,hx0,Ne.symm hx0,hx1,Ne.symm hx1,show ¬(addS:ByteArray)=subS by decide]) (fun x k hk=>by
  unfold kSum at hk
  split at hk
  ·rename_i hx;subst hx;decide
  split at hk
  ·rename_i hx;subst hx;decide
  cases hk) st w2' hM hg (h.below hb2' hRw) (hv.keep (.of hb2')) hM2' (by omega))
 clear hb1 hb2 hA2 hM2 hg2 hsub hb2' hA2' hM2' hg2'
 have hmm:=@run_makeMap Tryz.prog
 go_enter Tryz.func174,Tryz.ntmps174
 go_wp2_with fail
 refine HRW.out.mono ?_
 rintro e w3 ⟨hk3,fu,r3,hr3,h3⟩
 have HK3:=hid ((KeepR.of HB2.out).trans hk3)
 clear HRW
 rcases r3 with a | gs
 ·simp only at h3
  subst h3
  exact ⟨rfl,HK3.out,fu+1,.error a,by show pars s (fu+1) .sum st=_;rw [pars];exact hr3,rfl⟩
 obtain ⟨g3,st3⟩:=gs
 obtain ⟨⟨cs3,rfl,hgi3⟩,hr4,hg4,hpos4⟩:=h3
 have HA3:=hid (HA2.out.keepR hk3 (by omega))
 have HX3:=hid hgi3
 have HR4:=hid hr4
 obtain ⟨q1,m1,z1,b1,l2,c2,rfl⟩:=hgi3.four
 have o0:=HA3.out.cell (j:=0) (by simp)
 have o1:=HA3.out.cell (j:=1) (by simp)
 have o2:=HA3.out.cell (j:=2) (by simp)
 have o3:=HA3.out.cell (j:=3) (by simp)
 have f0:=HA3.out.frozen 0
 have f1:=HA3.out.frozen 1
 have f2:=HA3.out.frozen 2
 have f3:=HA3.out.frozen 3
 simp only [gE0,gE1] at o0 o1 o2 o3
 have hsz2:w.heap.size<w2'.heap.size:=HA2.out.lt
 clear hk3 hgi3 hr4
 go_wp2_with fail
 obtain ⟨k1,k2,k3,k4⟩:=store4 HK3.out (Nat.le_refl _) (by omega) HR4.out (X:=fun k=>k<w2'.heap.size) hsz2 HX3.out HA3.out
 refine ret_guard (fn:=Tryz.f174) rfl (g:=w.heap.size) (cs:=[.int .u8 q1,.int .i64 m1,.string z1,.slice b1 l2 c2]) rfl rfl rfl k4 ?_
 exact ⟨k1,fu+1,.ok (g3,st3),by show pars s (fu+1) .sum st=_;rw [pars];exact hr3,⟨_,rfl,k3.mono (fun k _ h=>Nat.lt_trans h hsz2)⟩,k2,hg4,hpos4⟩
theorem product_sub {R:Nat} {s:ByteArray} {N:Nat} (hs:s.size<=17000) (hsub:SubC R s N 197 .atom):SubC R s N 190 .product:=by
 intro st w hM hg h hv
 have hRw:R<w.heap.size:=Arr.lt h
 obtain ⟨w2,hu,hM2,hg2,hz2⟩:=(MapIs.made (w.alloc (.cells #[.int .u8 0,.int .i64 0,.string ⟨#[]⟩,.slice none 0 0] 80))).update Tryz.underlying178 Tryz.underlying9 (k:=mulS) (by decide) (.int .u8 15)
 rw [size_alloc] at hu hM2 hg2 hz2
 have hb1:Below w.heap.size w ((w.alloc (.cells #[.int .u8 0,.int .i64 0,.string ⟨#[]⟩,.slice none 0 0] 80)).alloc (.map #[] 0)):=((Below.refl _ _).alloc (Nat.le_refl _) _).alloc (by rw [size_alloc];omega) _
 have hb2:Below w.heap.size w w2:=hb1.grown hg2 (by rw [size_alloc,size_alloc];omega) (fun j hj=>by cases hj;omega)
 have hA2:Arr w2 w.heap.size 80 zeroG:=⟨(hg2.block _ (by rw [size_alloc,size_alloc];omega) (fun e=>by have:=Option.some.inj e;omega)).trans (Arr.alloc (Arr.new w zeroG 80) (.map #[] 0)).heap⟩
 have HB2:=hid hb2
 have HA2:=hid hA2
 have HRW:=hid (row_walk (F:=197) (kinds:=kMul) (ents:=(putM [] mulS (.int .u8 15))) hs (enters_of Tryz.func197 (by kernel_rfl) rfl) hsub (fun x=>by
  by_cases hx0:x=mulS
  ·subst hx0;rfl
  simp [putM,getM,kMul,hx0,Ne.symm hx0]) (fun x k hk=>by
  unfold kMul at hk
  split at hk
  ·rename_i hx;subst hx;decide
  cases hk) st w2 hM hg (h.below hb2 hRw) (hv.keep (.of hb2)) hM2 (by omega))
 clear hb1 hb2 hA2 hM2 hg2 hsub
 have hmm:=@run_makeMap Tryz.prog
 go_enter Tryz.func190,Tryz.ntmps190
 go_wp2_with fail
 refine HRW.out.mono ?_
 rintro e w3 ⟨hk3,fu,r3,hr3,h3⟩
 have HK3:=hid ((KeepR.of HB2.out).trans hk3)
 clear HRW
 rcases r3 with a | gs
 ·simp only at h3
  subst h3
  exact ⟨rfl,HK3.out,fu+1,.error a,by show pars s (fu+1) .product st=_;rw [pars];exact hr3,rfl⟩
 obtain ⟨g3,st3⟩:=gs
 obtain ⟨⟨cs3,rfl,hgi3⟩,hr4,hg4,hpos4⟩:=h3
 have HA3:=hid (HA2.out.keepR hk3 (by omega))
 have HX3:=hid hgi3
 have HR4:=hid hr4
 obtain ⟨q1,m1,z1,b1,l2,c2,rfl⟩:=hgi3.four
 have o0:=HA3.out.cell (j:=0) (by simp)
 have o1:=HA3.out.cell (j:=1) (by simp)
 have o2:=HA3.out.cell (j:=2) (by simp)
 have o3:=HA3.out.cell (j:=3) (by simp)
 have f0:=HA3.out.frozen 0
 have f1:=HA3.out.frozen 1
 have f2:=HA3.out.frozen 2
 have f3:=HA3.out.frozen 3
 simp only [gE0,gE1] at o0 o1 o2 o3
 have hsz2:w.heap.size<w2.heap.size:=HA2.out.lt
 clear hk3 hgi3 hr4
 go_wp2_with fail
 obtain ⟨k1,k2,k3,k4⟩:=store4 HK3.out (Nat.le_refl _) (by omega) HR4.out (X:=fun k=>k<w2.heap.size) hsz2 HX3.out HA3.out
 refine ret_guard (fn:=Tryz.f190) rfl (g:=w.heap.size) (cs:=[.int .u8 q1,.int .i64 m1,.string z1,.slice b1 l2 c2]) rfl rfl rfl k4 ?_
 exact ⟨k1,fu+1,.ok (g3,st3),by show pars s (fu+1) .product st=_;rw [pars];exact hr3,⟨_,rfl,k3.mono (fun k _ h=>Nat.lt_trans h hsz2)⟩,k2,hg4,hpos4⟩
end Go.Proofs.YtfbbkmdhnkmonaaGreatDoor
