/- Proved, each under the conditions that it names: docketref18: what its names, its order, its leaning come to; plain; docketref18: names, stage; docketref18: stage; docketref18: List, At; docketref18: At; docketref18: Places. -/
import Derived.Test.YtfbbkmdhnkmonaaGreatDoorT20
import Derived.Test.YtfbbkmdhnkmonaaGreatDoorT16
set_option maxRecDepth 100000
set_option maxHeartbeats 32000000
namespace Go.Proofs.YtfbbkmdhnkmonaaGreatDoor
open Go.RowKit
theorem namedB_eq (s:ByteArray):namedB s=namedG s:=by
 rw [Bool.eq_iff_iff]
 constructor
 ·intro h
  unfold namedB at h
  cases hr:readOf s with
  | none=>rw [hr] at h;cases h
  | some t =>
   rw [hr] at h
   simp only [Bool.and_eq_true,decide_eq_true_eq,ba_eq] at h
   obtain ⟨hk,htx⟩:=h
   have hm:=(readOf_may hr).1
   cases t with
   | leaf k n x =>
    replace hk:k=5:=hk
    replace htx:x=s:=htx
    subst hk htx
    rcases hm with ⟨h1,-⟩ | ⟨h1,-⟩ | ⟨h1,-⟩ | ⟨-,-,h3⟩
    ·omega
    ·omega
    ·omega
    exact h3
   | one k a =>
    replace hk:k=5:=hk
    have h8:k=8:=hm.1
    omega
   | two k a b =>
    replace hk:k=5:=hk
    have h9:9<=k/\k<=15:=hm.1
    omega
 intro h
 have hsz:s.size<=32:=by
  have h2:=h
  unfold namedG at h2
  simp only [Bool.and_eq_true,decide_eq_true_eq] at h2
  exact h2.1.1.1.2
 have hm:(GT.leaf 5 0 s).may:=.inr (.inr (.inr ⟨.inl rfl,rfl,h⟩))
 obtain ⟨f,hf⟩:=read_back hm (by show 1<=32;omega)
 have e:(⟨(GT.leaf 5 0 s).txt.toArray⟩:ByteArray)=s:=rfl
 rw [e] at hf
 have hr:readOf s=some (.leaf 5 0 s):=readOf_some.2 ⟨by omega,f,hf⟩
 rw [namedB_some hr]
 simp [GT.kd,GT.tx]
section
variable {α:Type} [DecidableEq α]
def restOf (l out:List α):List α:=l.filter fun a=>decide (a∉out)
def nextB (lean:α->α->Bool) (l out:List α) (a:α):Bool:=decide (a∉out)&&freeB lean l out a
theorem rest_nil (l:List α):restOf l []=l:=by
 unfold restOf
 rw [List.filter_eq_self]
 intro a _
 simp
omit [DecidableEq α] in
theorem find_filter {p q:α->Bool}:∀ {l:List α} {j:Nat},(l.filter p).findIdx? q=some j->∃a,(l.filter p)[j]? = some a/\l.find? (fun a=>p a&&q a)=some a
 | [],j,h=>by simp at h
 | x :: l,j,h=>by
  rw [List.filter_cons] at h ⊢
  by_cases hp:p x=true
  ·rw [if_pos hp] at h ⊢
   by_cases hq:q x=true
   ·rw [List.findIdx?_cons,hq] at h
    injection h with h
    subst h
    exact ⟨x,rfl,by rw [List.find?_cons_of_pos];simp [hp,hq]⟩
   rw [List.findIdx?_cons,show q x=false by simpa using hq] at h
   simp only [Bool.false_eq_true,if_false,Option.map_eq_some_iff] at h
   obtain ⟨i,hi,rfl⟩:=h
   obtain ⟨a,h1,h2⟩:=find_filter hi
   exact ⟨a,by simpa using h1,by rw [List.find?_cons_of_neg (by simp [hq])];exact h2⟩
  rw [if_neg hp] at h ⊢
  obtain ⟨a,h1,h2⟩:=find_filter h
  exact ⟨a,h1,by rw [List.find?_cons_of_neg (by simp [hp])];exact h2⟩
omit [DecidableEq α] in
theorem find_filter_none {p q:α->Bool} {l:List α} (h:(l.filter p).findIdx? q=none):l.find? (fun a=>p a&&q a)=none:=by
 rw [List.find?_eq_none]
 intro x hx
 rw [List.findIdx?_eq_none_iff] at h
 intro hpq
 simp only [Bool.and_eq_true] at hpq
 have:=h x (List.mem_filter.2 ⟨hx,hpq.1⟩)
 rw [hpq.2] at this
 cases this
theorem erase_filter {l:List α} (hn:l.Nodup) {j:Nat} {a:α} (h:l[j]? = some a):l.eraseIdx j=l.filter fun b=>decide (b≠a):=by
 induction l generalizing j with
 | nil=>simp at h
 | cons x l ih =>
  obtain ⟨h1,h2⟩:=List.nodup_cons.1 hn
  cases j with
  | zero =>
   simp at h
   subst h
   rw [List.eraseIdx_cons_zero,List.filter_cons_of_neg (by simp)]
   symm
   rw [List.filter_eq_self]
   intro b hb
   have:b≠x:=fun e=>h1 (e▸hb)
   simpa using this
  | succ j =>
   simp at h
   have hne:x≠a:=fun e=>h1 (e▸List.mem_of_getElem? h)
   rw [List.eraseIdx_cons_succ,List.filter_cons_of_pos (by simpa using hne),ih h2 h]
theorem rest_step {l out:List α} (hn:l.Nodup) {j:Nat} {a:α} (h:(restOf l out)[j]? = some a):(restOf l out).eraseIdx j=restOf l (out++[a]):=by
 have e:=erase_filter (hn.sublist (List.filter_sublist (p:=fun a=>decide (a∉out)))) h
 refine e.trans ?_
 unfold restOf
 rw [List.filter_filter]
 congr 1
 funext b
 rw [Bool.eq_iff_iff]
 simp
 exact And.comm
def ordFrom (lean:α->α->Bool) (l out:List α):List α:=ordL lean l l.length out (restOf l out)
theorem ordFrom_start (lean:α->α->Bool) (l:List α):ordFrom lean l []=ordL lean l l.length [] l:=by unfold ordFrom;rw [rest_nil]
theorem ordL_fuel (lean:α->α->Bool) (l:List α):∀(f g:Nat) (out rest:List α),rest.length<=f->rest.length<=g->ordL lean l f out rest=ordL lean l g out rest
 | 0,0,_,_,_,_=>rfl
 | 0,g+1,out,rest,h,_=>by
  obtain rfl:=List.eq_nil_of_length_eq_zero (Nat.le_zero.1 h)
  simp [ordL]
 | f+1,0,out,rest,_,h=>by
  obtain rfl:=List.eq_nil_of_length_eq_zero (Nat.le_zero.1 h)
  simp [ordL]
 | f+1,g+1,out,rest,h1,h2=>by
  simp only [ordL]
  split
  ·rfl
  split
  ·rfl
  rename_i i _ _ a ha
  have hi:=lt_of_some ha
  have:(rest.eraseIdx i).length+1=rest.length:=by rw [List.length_eraseIdx_of_lt hi];omega
  exact ordL_fuel lean l f g _ _ (by omega) (by omega)
theorem ordFrom_end {lean:α->α->Bool} {l out:List α} (h:l.find? (nextB lean l out)=none):ordFrom lean l out=out:=by
 unfold ordFrom
 cases hf:(restOf l out).findIdx? (freeB lean l out) with
 | some j =>
  obtain ⟨a,-,h2⟩:=find_filter hf
  have h':l.find? (fun a=>decide (a∉out)&&freeB lean l out a)=none:=h
  rw [h'] at h2;cases h2
 | none =>
  cases l.length with
  | zero=>simp [ordL]
  | succ n=>simp only [ordL,hf]
theorem ordFrom_next {lean:α->α->Bool} {l out:List α} (hn:l.Nodup) {a:α} (h:l.find? (nextB lean l out)=some a):ordFrom lean l out=ordFrom lean l (out++[a]):=by
 unfold ordFrom
 cases hf:(restOf l out).findIdx? (freeB lean l out) with
 | none =>
  have h2:=find_filter_none hf
  have h':l.find? (fun a=>decide (a∉out)&&freeB lean l out a)=some a:=h
  rw [h'] at h2;cases h2
 | some j =>
  obtain ⟨b,h1,h2⟩:=find_filter hf
  have h':l.find? (fun a=>decide (a∉out)&&freeB lean l out a)=some a:=h
  rw [h'] at h2
  injection h2 with h2
  subst h2
  have h1':(restOf l out)[j]? = some a:=h1
  have hl:(restOf l out).length<=l.length:=List.length_filter_le _ _
  have hj:=lt_of_some h1'
  cases hll:l.length with
  | zero=>omega
  | succ n =>
   have e1:ordL lean l (n+1) out (restOf l out)=ordL lean l n (out++[a]) ((restOf l out).eraseIdx j):=by
    rw [ordL,hf]
    simp only [h1']
   have hr:(restOf l (out++[a])).length+1=(restOf l out).length:=by rw [<-rest_step hn h1',List.length_eraseIdx_of_lt hj];omega
   rw [e1,rest_step hn h1']
   exact ordL_fuel lean l n (n+1) _ _ (by omega) (by omega)
theorem next_of {lean:α->α->Bool} {l out:List α} {a:α} (h:l.find? (nextB lean l out)=some a):a∈l/\a∉out:=by
 refine ⟨List.mem_of_find?_eq_some h,?_⟩
 have:=List.find?_some h
 unfold nextB at this
 simp only [Bool.and_eq_true,decide_eq_true_eq] at this
 exact this.1
end
theorem orderL_from (md:ModelD):orderL md=ordFrom (leansB md) (placesL md) []:=by
 rw [ordFrom_start];rfl
def opensB (b:Pl) (n:Int):Bool:=decide (b.1=1)&&decide (b.2.1=n)
def closesB (md:ModelD) (b:Pl) (n:Int):Bool:=decide (b.1=2)&&withinB md n b.2.1
theorem turns_oc (md:ModelD) (b:Pl) (n:Int):turnsB md b n true true=(opensB b n||closesB md b n):=rfl
theorem turns_o (md:ModelD) (b:Pl) (n:Int):turnsB md b n true false=opensB b n:=by simp [turnsB,opensB]
theorem turns_c (md:ModelD) (b:Pl) (n:Int):turnsB md b n false true=closesB md b n:=by simp [turnsB,closesB]
structure LeanD where
 on:Int
 name:ByteArray
 cond:ByteArray
 inn:Int
 stages:List Int
 stones:List Int
def waitB (md:ModelD) (x:LeanD) (b:Pl):Bool :=
 if x.on=2 then opensB b (stageIx md x.name) else if x.on=3 then closesB md b (stageIx md x.name) else if x.on=4 then decide (b.1=3)&&decide (b.2.1=stoneIx md x.name) else if x.on=5 then decide (b.1=4)&&decide (b.2.1=stoneIx md x.name) else false
def innB (md:ModelD) (x:LeanD) (b:Pl):Bool:=decide (0<=x.inn)&&(opensB b x.inn||closesB md b x.inn)
def onX (md:ModelD) (x:LeanD) (b:Pl):Bool:=waitB md x b||(innB md x b||(x.stages.any (fun n=>opensB b n||closesB md b n)||x.stones.any (fun n=>decide (3<=b.1)&&decide (b.2.1=n))))
structure LeanOf (md:ModelD) (a:Pl) (s:SentryD) (x:LeanD):Prop where
 on:x.on=s.on
 name:x.name=s.name
 cond:x.cond=s.cond
 inn:x.inn=if a.1=1 then ((md.stages[a.2.1.toNat]?).map StageD.inn).getD (-1) else -1
 empty:s.cond.size=0->x.stages=[]/\x.stones=[]
 full:s.cond.size≠0->∃(t:GT) (l6 l7:List ByteArray),readOf s.cond=some t/\x.stages=l6.map (stageIx md)/\x.stones=l7.map (stoneIx md)/\(∀n,n∈l6↔n∈namesOf 6 t)/\(∀n,n∈l7↔n∈namesOf 7 t)
theorem onX_eq {md:ModelD} {a b:Pl} {s:SentryD} {x:LeanD} (h:LeanOf md a s x):onX md x b=leansS md a b s:=by
 rw [leansS_eq]
 have h1:waitB md x b=onB md b s:=by
  unfold waitB onB
  rw [h.on,h.name]
  by_cases h2:s.on=2
  ·simp [h2,turns_o]
  by_cases h3:s.on=3
  ·simp [h3,turns_c]
  by_cases h4:s.on=4
  ·simp [h4]
  by_cases h5:s.on=5
  ·simp [h5]
  simp [h2,h3,h4,h5]
 have h2:innB md x b=inB md a b:=by
  unfold innB inB
  rw [h.inn]
  by_cases ha:a.1=1
  ·rw [if_pos ha]
   cases md.stages[a.2.1.toNat]? with
   | none=>simp [ha]
   | some y=>simp [ha,turns_oc]
  rw [if_neg ha]
  simp [ha]
 have h3:(x.stages.any (fun n=>opensB b n||closesB md b n)||x.stones.any (fun n=>decide (3<=b.1)&&decide (b.2.1=n)))=condB md b s.cond:=by
  by_cases hc:s.cond.size=0
  ·obtain ⟨e1,e2⟩:=h.empty hc
   rw [e1,e2,condB_zero hc];rfl
  obtain ⟨t,l6,l7,hr,e1,e2,m6,m7⟩:=h.full hc
  rw [condB_some hc hr,<-any_same m6,<-any_same m7,e1,e2,List.any_map,List.any_map]
  congr 1
  by_cases hb:3<=b.1
  ·have hb':2<b.1:=by omega
   simp [hb,hb',Function.comp_def]
  have hb':¬2<b.1:=by omega
  simp [hb,hb',Function.comp_def]
 unfold onX
 rw [h1,h2,h3]
 simp only [Bool.or_assoc]
end Go.Proofs.YtfbbkmdhnkmonaaGreatDoor
namespace Go.Proofs.YtfbbkmdhnkmonaaGreatDoor
open Go.RowKit
theorem rfNames_walk (l:List ByteArray) (v:Value) (w:World) (hl:l.length<=4000000) (h:Strs w.heap.size w v l) :
  Calls Tryz.prog 67 #[v] w (fun e w'=>e=.returned (.bool (rowB l))/\Below w.heap.size w w'):=by
 obtain ⟨a,c,b,o,rfl,-,ha,hc⟩:=h.cells
 have HC:=hid hc
 have HA:=hid ha
 have HN:=hid rfNamed_walkA
 obtain ⟨q,hq⟩:∃q,rowB l=q:=⟨_,rfl⟩
 rw [hq]
 have HQ:=hid hq
 clear h hc ha hq
 go_enter Tryz.func67,Tryz.ntmps67
 go_wp2_with fail
 go_loopw [3] (fun i wr=>∃m:Nat,m<=l.length/\i=.int .i64 (m:Int)/\Hid (Below w.heap.size w wr)/\Hid (rowB (l.take m)=true)) (fun i _=>l.length-(intOf i).toNat)
 case atStart=>exact ⟨0,Nat.zero_le _,rfl,Below.refl _ _,(by show rowB (l.take 0)=true;simp [rowB])⟩
 obtain ⟨m,hml,rfl,HB,HR⟩:=hrel
 by_cases hlt:m<l.length
 ·have i1:(m:Int)<(l.length:Int):=by omega
  have i2:(0:Int)<=(m:Int):=by omega
  have HML:=hid hlt
  obtain ⟨rfl,hbl⟩:=HA.out (by omega)
  have c0:wr.cell? ⟨b,o+m,none⟩=some (.string (l[m]'hlt)):=(HB.out.cell (p:=⟨b,o+m,none⟩) hbl).trans (HC.out m hlt)
  have k3:IntKind.i64.wrap ((m:Int)+1)=(m:Int)+1:=wrap_i64 (by omega) (by omega)
  obtain ⟨sn,hsn⟩:∃sn,l[m]'hlt=sn:=⟨_,rfl⟩
  rw [hsn] at c0
  have HNM:=hid (HN.out sn wr)
  obtain ⟨r,hr⟩:∃r,namedG sn=r:=⟨_,rfl⟩
  rw [hr] at HNM
  have HSN:=hid hsn
  have HNR:=hid hr
  clear hsn hr
  cases r with
  | false =>
   have HQ2:Hid (false=q):=by
    show _=_
    rw [<-HQ.out]
    exact (rowB_bad HML.out (by rw [HSN.out,namedB_eq];exact HNR.out)).symm
   clear HR
   go_wp2_with fail
   refine HNM.out.mono ?_
   rintro e w2 ⟨rfl,hb2⟩
   have HB2:=hid (HB.out.trans (hb2.mono HB.out.size))
   clear hb2 HNM
   go_wp2_with fail
   go_ret
   exact ⟨ret_bool HQ2.out,HB2.out⟩
  | true =>
   obtain ⟨wo,rfl⟩:∃wo,wo=wr:=⟨_,rfl⟩
   go_wp2_with fail
   refine HNM.out.mono ?_
   rintro e w2 ⟨rfl,hb2⟩
   have HB2:=hid (HB.out.trans (hb2.mono HB.out.size))
   clear hb2 HNM HB c0
   go_wp2_with fail
   go_loopw [4] (fun i wr=>∃k:Nat,k<=m/\i=.int .i64 (k:Int)/\Hid (Below w.heap.size w wr)/\Hid (∀j (_:j<k) (h:j<l.length),l[j]≠sn)) (fun i _=>m-(intOf i).toNat)
   case atStart=>exact ⟨0,Nat.zero_le _,rfl,HB2.out,fun j hj=>absurd hj (Nat.not_lt_zero _)⟩
   clear HB2
   obtain ⟨k,hkm,rfl,HB,HS⟩:=hrel
   by_cases hkl:k<m
   ·have i3:(k:Int)<(m:Int):=by omega
    have i4:(0:Int)<=(k:Int):=by omega
    have i5:(k:Int)<(l.length:Int):=by omega
    have HKL:=hid hkl
    have hk2:k<l.length:=by omega
    have c0:wr.cell? ⟨b,o+m,none⟩=some (.string sn):=by rw [<-HSN.out];exact (HB.out.cell (p:=⟨b,o+m,none⟩) hbl).trans (HC.out m HML.out)
    have c1:wr.cell? ⟨b,o+k,none⟩=some (.string (l[k]'hk2)):=(HB.out.cell (p:=⟨b,o+k,none⟩) hbl).trans (HC.out k hk2)
    have k4:IntKind.i64.wrap ((k:Int)+1)=(k:Int)+1:=wrap_i64 (by omega) (by omega)
    obtain ⟨sk,hsk⟩:∃sk,l[k]'hk2=sk:=⟨_,rfl⟩
    rw [hsk] at c1
    cases he:sk.toList==sn.toList with
    | true =>
     have HQ2:Hid (false=q):=by
      show _=_
      rw [<-HQ.out]
      rw [ba_eq,decide_eq_true_eq] at he
      exact (rowB_twice HKL.out HML.out (by rw [hsk,HSN.out];exact he)).symm
     clear hsk HS HR
     go_upto_region 9 with fail
     go_quiet (fail)
     go_wp2_with fail
     go_ret
     exact ⟨ret_bool HQ2.out,below_drewN HB.out _⟩
    | false =>
     have HS2:Hid (∀j (_:j<k+1) (h:j<l.length),l[j]≠sn):=fun j hj h=>by
      rcases Nat.lt_or_ge j k with h1 | h1
      ·exact HS.out j h1 h
      obtain rfl:j=k:=by omega
      rw [ba_eq,decide_eq_false_iff_not] at he
      rw [hsk];exact he
     clear hsk HS HR
     go_upto_region 9 with fail
     go_quiet (fail)
     go_wp2_with fail
     refine ⟨⟨k+1,by have:=HKL.out;omega,by go_num,below_drewN HB.out _,HS2⟩,by simp only [intOf];have:=HKL.out;omega⟩
   obtain rfl:k=m:=by omega
   have i3:¬(k:Int)<(k:Int):=by omega
   have HR2:Hid (rowB (l.take (k+1))=true):=by
    show _=_
    rw [List.take_succ_eq_append_getElem HML.out]
    refine rowB_snoc HR.out (by rw [HSN.out,namedB_eq];exact HNR.out) fun hin=>?_
    obtain ⟨j,hj,he⟩:=List.mem_iff_getElem.1 hin
    rw [List.getElem_take] at he
    have hj2:j<k/\j<l.length:=by simp at hj;omega
    exact HS.out j hj2.1 hj2.2 (by rw [he,HSN.out])
   clear HS HR
   go_wp2_with fail
   refine ⟨⟨k+1,by have:=HML.out;omega,by go_num,HB,HR2⟩,by simp only [intOf];have:=HML.out;omega⟩
 obtain rfl:m=l.length:=by omega
 have i1:¬(l.length:Int)<(l.length:Int):=by omega
 have HQ2:Hid (true=q):=by
  show _=_
  rw [<-HQ.out,<-HR.out,List.take_length]
 clear HR
 go_wp2_with fail
 go_ret
 exact ⟨ret_bool HQ2.out,HB.out⟩
def badS (n:Nat) (s:StageD):Prop:=s.inn < -1\/(n:Int)<=s.inn\/(s.role.size≠0/\namedG s.role=false)\/s.aft<0\/1099511627776<s.aft
instance (n:Nat) (s:StageD):Decidable (badS n s):=by unfold badS;infer_instance
theorem stagedB_eq (md:ModelD) (n:Nat) (s:StageD):stagedB md n s=if badS n s then false else if s.aft=0 then decide (s.event.size=0) else hasB md.events s.event:=by
 unfold stagedB badS
 rw [namedB_eq]
theorem rfStaged_walk (md:ModelD) (v:ModelV) (n:Nat) (hn:n<md.stages.length) (w:World) (hz:md.Sml) (hM:ModelM false (From 0) w md v) :
  Calls Tryz.prog 68 #[.agg (v.cs md).toArray,.int .i64 (n:Int)] w (fun e w'=>e=.returned (.bool (stagedB md n md.stages[n]))/\Below w.heap.size w w'):=by
 obtain ⟨w1,hw1⟩:∃w1,w.alloc (.cells (v.cs md).toArray 31)=w1:=⟨_,rfl⟩
 have hb1:Below w.heap.size w w1:=hw1▸(Below.refl _ _).alloc (Nat.le_refl _) _
 have hx1:Arr w1 w.heap.size 31 (v.cs md):=hw1▸Arr.new w (v.cs md) _
 have hz1:w1.heap.size=w.heap.size+1:=by rw [<-hw1,size_alloc]
 have HM:=hid (fun W (hb:Below w1.heap.size w1 W)=>hM.grow (hb1.trans (hb.mono hb1.size)))
 have HX:=hid hx1
 have HB1:=hid hb1
 have HW1:=hid hw1
 have hel:=hz.events
 obtain ⟨b,off,ha,hbl,d1,e1,d2,e2,-,-,c0,c1,c2,c3,c4,c5,c6⟩:=stage_at (hM.grow hb1) hn
 obtain ⟨sd,hsd⟩:∃sd,md.stages[n]'hn=sd:=⟨_,rfl⟩
 rw [hsd] at c0 c1 c2 c3 c4 c5 c6 ⊢
 obtain ⟨va1,vc1,va2,vc2,va3,vc3,va4,vc4,va5,vc5⟩:=v
 obtain rfl:va3=some ⟨b,off,none⟩:=ha
 obtain ⟨w2,hw2⟩:∃w2,w1.alloc (.cells #[.string sd.name,.int .i64 sd.inn,.slice d1 sd.opens.length e1,.slice d2 sd.closes.length e2,.string sd.role,.int .i64 sd.aft,.string sd.event] 38)=w2:=⟨_,rfl⟩
 have hb12:Below w1.heap.size w1 w2:=hw2▸(Below.refl _ _).alloc (Nat.le_refl _) _
 have hs2:Arr w2 w1.heap.size 38 [.string sd.name,.int .i64 sd.inn,.slice d1 sd.opens.length e1,.slice d2 sd.closes.length e2,.string sd.role,.int .i64 sd.aft,.string sd.event]:=by
  have:=Arr.new w1 [.string sd.name,.int .i64 sd.inn,.slice d1 sd.opens.length e1,.slice d2 sd.closes.length e2,.string sd.role,.int .i64 sd.aft,.string sd.event] 38
  exact hw2▸this
 have HW2:=hid hw2
 have HB12:=hid hb12
 have HB2:=hid (hb1.trans (hb12.mono hb1.size))
 have HSW:Hid (∀W,Below w2.heap.size w2 W->W.cell? ⟨w.heap.size,2,none⟩=some (.slice va2 md.events.length vc2)/\W.cell? ⟨w1.heap.size,1,none⟩=some (.int .i64 sd.inn)/\W.cell? ⟨w1.heap.size,4,none⟩=some (.string sd.role)/\W.cell? ⟨w1.heap.size,5,none⟩=some (.int .i64 sd.aft)/\W.cell? ⟨w1.heap.size,6,none⟩=some (.string sd.event)):=fun W hb=>by
  obtain ⟨-,-,m2,-,-,-⟩:=box6 hx1 (hb12.trans (hb.mono hb12.size))
  have s1:=hs2.cell (j:=1) (by simp)
  have s4:=hs2.cell (j:=4) (by simp)
  have s5:=hs2.cell (j:=5) (by simp)
  have s6:=hs2.cell (j:=6) (by simp)
  simp only [gE0,gE1] at s1 s4 s5 s6
  exact ⟨m2,cellBelow2 hb s1,cellBelow2 hb s4,cellBelow2 hb s5,cellBelow2 hb s6⟩
 have HMW:Hid (∀W,Below w2.heap.size w2 W->ModelM false (From 0) W md ⟨va1,vc1,va2,vc2,some ⟨b,off,none⟩,vc3,va4,vc4,va5,vc5⟩):=fun W hb=>HM.out W (hb12.trans (hb.mono hb12.size))
 have HNM:=hid (rfNamed_walkA sd.role)
 obtain ⟨q,hq⟩:∃q,stagedB md n sd=q:=⟨_,rfl⟩
 rw [hq]
 have HQ:Hid ((if badS n sd then false else if sd.aft=0 then decide (sd.event.size=0) else hasB md.events sd.event)=q):=by show _=_;rw [<-hq,stagedB_eq]
 obtain ⟨y0,y1,y2,y3,y4,y5⟩:=box6 hx1 (Below.refl _ _)
 have i1:(n:Int)<(md.stages.length:Int):=by omega
 have i2:(0:Int)<=(n:Int):=by omega
 have hbl1:b<w1.heap.size:=hbl
 clear hM hb1 hx1 hw1 hz hsd hb12 hs2 hw2 hq hn hz1
 go_enter Tryz.func68,Tryz.ntmps68
 go_upto_region 1 with fail
 rw [HW1.out]
 go_upto_region 2 with fail
 rw [HW2.out]
 clear y0 y1 y2 y3 y4 y5 c0 c1 c2 c3 c4 c5 c6 HW1 HW2
 obtain ⟨y2,s1,s4,s5,s6⟩:=HSW.out w2 (Below.refl _ _)
 obtain ⟨bad,hbad⟩:∃bad,decide (badS n sd)=bad:=⟨_,rfl⟩
 have HBAD:=hid hbad
 clear hbad
 obtain ⟨inn,hinn⟩:∃x,sd.inn=x:=⟨_,rfl⟩
 obtain ⟨role,hrole⟩:∃x,sd.role=x:=⟨_,rfl⟩
 obtain ⟨aft,haft⟩:∃x,sd.aft=x:=⟨_,rfl⟩
 obtain ⟨ev,hev⟩:∃x,sd.event=x:=⟨_,rfl⟩
 have HBD:Hid ((inn < -1\/(n:Int)<=inn\/(role.size≠0/\namedG role=false)\/aft<0\/1099511627776<aft)↔bad=true):=by
  show _↔_
  rw [<-HBAD.out,decide_eq_true_eq,badS,hinn,hrole,haft]
 have HQ2:Hid ((if bad=true then false else if aft=0 then decide (ev.size=0) else hasB md.events ev)=q):=by
  show _=_
  rw [<-HQ.out,<-HBAD.out,haft,hev]
  simp only [decide_eq_true_eq]
 rw [hinn] at s1
 rw [hrole] at s4 HNM
 rw [haft] at s5
 rw [hev] at s6
 simp only [hinn,hrole,haft,hev] at HSW
 clear hinn hrole haft hev HQ HBAD
 go_cut [41] (fun t wx=>t=.bool bad/\Hid (Below w2.heap.size w2 wx))
 case first =>
  by_cases h1:inn < -1
  ·have HE:Hid (bad=true):=HBD.out.1 (.inl h1)
   go_wp2_with fail
   go_meet
   exact ⟨by rw [HE.out],Below.refl _ _⟩
  by_cases h2:(n:Int)<=inn
  ·have HE:Hid (bad=true):=HBD.out.1 (.inr (.inl h2))
   go_wp2_with fail
   go_meet
   exact ⟨by rw [HE.out],Below.refl _ _⟩
  rcases Nat.eq_zero_or_pos role.size with h0 | h0
  ·have e0:(role.toList != [])=false:=by rw [nz_ne.1];simp [h0]
   have e1':role.toList.isEmpty=true:=by rw [nz_emp];simp [h0]
   have H0:=hid h0
   clear h0
   by_cases h3:aft<0
   ·have HE:Hid (bad=true):=HBD.out.1 (.inr (.inr (.inr (.inl h3))))
    go_wp2_with fail
    go_meet
    exact ⟨by rw [HE.out],Below.refl _ _⟩
   by_cases h4:1099511627776<aft
   ·have HE:Hid (bad=true):=HBD.out.1 (.inr (.inr (.inr (.inr h4))))
    go_wp2_with fail
    go_meet
    exact ⟨by rw [HE.out],Below.refl _ _⟩
   have HE:Hid (bad=false):=by
    show _=_
    rw [Bool.eq_false_iff]
    intro h
    have:=HBD.out.2 h
    have:=H0.out
    omega
   go_wp2_with fail
   go_meet
   exact ⟨by rw [HE.out],Below.refl _ _⟩
  have h0':role.size≠0:=by omega
  have e0:(role.toList != [])=true:=by rw [nz_ne.1];exact decide_eq_true h0'
  have e1':role.toList.isEmpty=false:=by rw [nz_emp];exact decide_eq_false h0'
  have H0:=hid h0'
  have HN2:=hid (HNM.out w2)
  obtain ⟨r,hr⟩:∃r,namedG role=r:=⟨_,rfl⟩
  rw [hr] at HN2
  have HRR:=hid hr
  clear h0 h0' hr
  cases r with
  | false =>
   have HE:Hid (bad=true):=HBD.out.1 (.inr (.inr (.inl ⟨H0.out,HRR.out⟩)))
   go_wp2_with fail
   refine HN2.out.mono ?_
   rintro e w4 ⟨rfl,hb4⟩
   have HB4:=hid hb4
   clear hb4 HN2
   go_wp2_with fail
   go_meet
   exact ⟨by rw [HE.out],HB4.out⟩
  | true =>
   by_cases h3:aft<0
   ·have HE:Hid (bad=true):=HBD.out.1 (.inr (.inr (.inr (.inl h3))))
    go_wp2_with fail
    refine HN2.out.mono ?_
    rintro e w4 ⟨rfl,hb4⟩
    have HB4:=hid hb4
    obtain ⟨y2',s1',s4',s5',s6'⟩:=HSW.out w4 hb4
    clear hb4 HN2
    go_wp2_with fail
    go_meet
    exact ⟨by rw [HE.out],HB4.out⟩
   by_cases h4:1099511627776<aft
   ·have HE:Hid (bad=true):=HBD.out.1 (.inr (.inr (.inr (.inr h4))))
    go_wp2_with fail
    refine HN2.out.mono ?_
    rintro e w4 ⟨rfl,hb4⟩
    have HB4:=hid hb4
    obtain ⟨y2',s1',s4',s5',s6'⟩:=HSW.out w4 hb4
    clear hb4 HN2
    go_wp2_with fail
    go_meet
    exact ⟨by rw [HE.out],HB4.out⟩
   have HE:Hid (bad=false):=by
    show _=_
    rw [Bool.eq_false_iff]
    intro h
    have h5:=HBD.out.2 h
    rw [HRR.out] at h5
    rcases h5 with h5 | h5 | ⟨-,h5⟩ | h5 | h5
    ·exact h1 h5
    ·exact h2 h5
    ·cases h5
    ·exact h3 h5
    exact h4 h5
   go_wp2_with fail
   refine HN2.out.mono ?_
   rintro e w4 ⟨rfl,hb4⟩
   have HB4:=hid hb4
   obtain ⟨y2',s1',s4',s5',s6'⟩:=HSW.out w4 hb4
   clear hb4 HN2
   go_wp2_with fail
   go_meet
   exact ⟨by rw [HE.out];simp [h3,h4],HB4.out⟩
 obtain ⟨rfl,HBc⟩:=hcut
 rename World=>wc
 clear y2 s1 s4 s5 s6 HNM HBD
 obtain ⟨y2,s1,s4,s5,s6⟩:=HSW.out wc HBc.out
 have HBF:=hid (HB2.out.trans (HBc.out.mono HB2.out.size))
 cases bad with
 | true =>
  have HQ3:Hid (false=q):=by show _=_;rw [<-HQ2.out,if_pos rfl]
  go_wp2_with fail
  go_ret
  exact ⟨ret_bool HQ3.out,HBF.out⟩
 | false =>
  by_cases h0:aft=0
  ·have e0:(aft==0)=true:=by simp [h0]
   have HQ3:Hid ((ev.toList==[])=q):=by show _=_;rw [<-HQ2.out,if_neg (by simp),if_pos h0,nz_ne.2]
   have HQ4:Hid (ev.toList.isEmpty=q):=by show _=_;rw [<-HQ2.out,if_neg (by simp),if_pos h0,nz_emp]
   clear h0 HQ2
   go_wp2_with fail
   go_ret
   exact ⟨ret_bool (by first | exact HQ3.out | exact HQ4.out),HBF.out⟩
  have e0:(aft==0)=false:=by simp [h0]
  have HQ3:Hid (hasB md.events ev=q):=by show _=_;rw [<-HQ2.out,if_neg (by simp),if_neg h0]
  clear h0 HQ2
  go_wp2_with fail
  go_loopw [6] (fun i wr=>∃m:Nat,m<=md.events.length/\i=.int .i64 (m:Int)/\Hid (Below w2.heap.size w2 wr)/\Hid (∀j (_:j<m) (h:j<md.events.length),(md.events[j].toList==ev.toList)=false)) (fun i _=>md.events.length-(intOf i).toNat)
  case atStart=>exact ⟨0,Nat.zero_le _,rfl,HBc.out,fun j hj=>absurd hj (Nat.not_lt_zero _)⟩
  obtain ⟨m,hml,rfl,HB,HS⟩:=hrel
  clear y2 s1 s4 s5 s6
  obtain ⟨y2,s1,s4,s5,s6⟩:=HSW.out wr HB.out
  have HBG:=hid (HB2.out.trans (HB.out.mono HB2.out.size))
  by_cases hlt:m<md.events.length
  ·have i3:(m:Int)<(md.events.length:Int):=by omega
   have i4:(0:Int)<=(m:Int):=by omega
   have HML:=hid hlt
   obtain ⟨b',off',ha',hbl',c0⟩:=event_at (HMW.out wr HB.out) hlt
   obtain rfl:va2=some ⟨b',off',none⟩:=ha'
   have k3:IntKind.i64.wrap ((m:Int)+1)=(m:Int)+1:=wrap_i64 (by omega) (by omega)
   obtain ⟨sn,hsn⟩:∃sn,md.events[m]'hlt=sn:=⟨_,rfl⟩
   rw [hsn] at c0
   cases hc:sn.toList==ev.toList with
   | true =>
    have HQ5:Hid (true=q):=by
     show _=_
     rw [<-HQ3.out]
     exact (any_hit hlt (by rw [hsn];exact hc)).symm
    clear hsn HS
    go_upto_region 9 with fail
    go_quiet (fail)
    go_wp2_with fail
    go_ret
    exact ⟨ret_bool HQ5.out,below_drewN HBG.out _⟩
   | false =>
    have HS2:Hid (∀j (_:j<m+1) (h:j<md.events.length),(md.events[j].toList==ev.toList)=false):=fun j hj h=>by
     rcases Nat.lt_or_ge j m with h1 | h1
     ·exact HS.out j h1 h
     obtain rfl:j=m:=by omega
     rw [hsn];exact hc
    clear hsn HS
    go_upto_region 9 with fail
    go_quiet (fail)
    go_wp2_with fail
    refine ⟨⟨m+1,by have:=HML.out;omega,by go_num,below_drewN HB.out _,HS2⟩,by simp only [intOf];have:=HML.out;omega⟩
  obtain rfl:m=md.events.length:=by omega
  have i3:¬(md.events.length:Int)<(md.events.length:Int):=by omega
  have HQ5:Hid (false=q):=by
   show _=_
   rw [<-HQ3.out]
   exact (any_miss fun j hj=>HS.out j hj hj).symm
  clear HS
  go_wp2_with fail
  go_ret
  exact ⟨ret_bool HQ5.out,HBG.out⟩
theorem nil_memR (o:Bool) (P:Nat->Prop) (w:World) (k:Nat):Mem o P w (.list k []) (.slice none 0 0) :=
 .list k [] [] none 0 0 0 rfl (Nat.le_refl _) (fun h=>absurd h (by simp)) (fun j v h=>absurd h (by simp)) (fun j v h=>absurd h (by simp)) (fun j v i u h=>absurd h (by simp)) (fun j v e i u d h=>absurd h (by simp))
def ListEnd (md:ModelD) (k n:Int) (w:World) (e:Ending) (w':World):Prop:=Below w.heap.size w w'/\∃va vc,e=.returned (.tuple #[.slice va (senL md k n).length vc,.bool (isL md k n)])/\Mem false (From 0) w' (senD (senL md k n)) (.slice va (senL md k n).length vc)
theorem listEnd_no {md:ModelD} {k n:Int} {w w':World} (h:isL md k n=false) (hb:Below w.heap.size w w'):ListEnd md k n w (.returned (.tuple #[.slice none 0 0,.bool false])) w':=by
 refine ⟨hb,none,0,?_,?_⟩
 ·rw [h,senL_no h];rfl
 rw [senL_no h];exact nil_memR _ _ _ _
theorem listEnd_yes {md:ModelD} {k n:Int} {w w':World} {l:List SentryD} {a:Option Addr} {c:Nat} (h:isL md k n=true) (hl:senL md k n=l) (hb:Below w.heap.size w w') (hm:Mem false (From 0) w' (senD l) (.slice a l.length c)):ListEnd md k n w (.returned (.tuple #[.slice a l.length c,.bool true])) w':=by
 subst hl
 exact ⟨hb,a,c,by rw [h],hm⟩
theorem rfList_walk (md:ModelD) (v:ModelV) (k n:Int) (w:World) (hM:ModelM false (From 0) w md v) :
  Calls Tryz.prog 58 #[.agg (v.cs md).toArray,.int .i64 k,.int .i64 n] w (ListEnd md k n w):=by
 obtain ⟨w1,hw1⟩:∃w1,w.alloc (.cells (v.cs md).toArray 31)=w1:=⟨_,rfl⟩
 have hb1:Below w.heap.size w w1:=hw1▸(Below.refl _ _).alloc (Nat.le_refl _) _
 have hx1:Arr w1 w.heap.size 31 (v.cs md):=hw1▸Arr.new w (v.cs md) _
 have HM:=hid (hM.grow hb1)
 have HB1:=hid hb1
 have HW1:=hid hw1
 obtain ⟨y0,y1,y2,y3,y4,y5⟩:=box6 hx1 (Below.refl _ _)
 clear hM hb1 hx1 hw1
 by_cases hn:n<0
 ·have HE:Hid (ListEnd md k n w (.returned (.tuple #[.slice none 0 0,.bool false])) w1):=listEnd_no (by unfold isL;simp;omega) HB1.out
  go_enter Tryz.func58,Tryz.ntmps58
  go_upto_region 1 with fail
  rw [HW1.out]
  go_wp2_with fail
  refine bodyPost_ret (results_tmp2 (Tryz.results58) _ _ _) rfl ?_
  exact HE.out
 obtain ⟨m,rfl⟩:∃m:Nat,n=m:=⟨n.toNat,by omega⟩
 have i0:¬(m:Int)<0:=by omega
 have i2:(0:Int)<=(m:Int):=by omega
 clear hn
 by_cases h1:k=1
 ·subst h1
  by_cases hm:m<md.stages.length
  ·have i1:(m:Int)<(md.stages.length:Int):=by omega
   obtain ⟨b,off,ha,hbl,d1,e1,d2,e2,s1,s2,-,-,c,-,-,-,-⟩:=stage_at HM.out hm
   have HE:Hid (ListEnd md 1 (m:Int) w (.returned (.tuple #[.slice _ (md.stages[m]'hm).opens.length _,.bool true])) w1):=listEnd_yes (by unfold isL;simp;omega) (senL_1 hm) HB1.out s1
   obtain ⟨sl,hsl⟩:∃sl,(md.stages[m]'hm).opens.length=sl:=⟨_,rfl⟩
   rw [hsl] at c HE
   have hy:=y3
   rw [ha] at hy
   clear s1 s2 hsl ha y3 hm
   go_enter Tryz.func58,Tryz.ntmps58
   go_upto_region 1 with fail
   rw [HW1.out]
   go_wp2_with fail
   refine bodyPost_ret (results_tmp2 (Tryz.results58) _ _ _) rfl ?_
   exact HE.out
  have i1:¬(m:Int)<(md.stages.length:Int):=by omega
  have HE:Hid (ListEnd md 1 (m:Int) w (.returned (.tuple #[.slice none 0 0,.bool false])) w1):=listEnd_no (by unfold isL;simp;omega) HB1.out
  clear hm
  go_enter Tryz.func58,Tryz.ntmps58
  go_upto_region 1 with fail
  rw [HW1.out]
  go_wp2_with fail
  refine bodyPost_ret (results_tmp2 (Tryz.results58) _ _ _) rfl ?_
  exact HE.out
 have e1:(k==1)=false:=by simpa using h1
 by_cases h2:k=2
 ·subst h2
  by_cases hm:m<md.stages.length
  ·have i1:(m:Int)<(md.stages.length:Int):=by omega
   obtain ⟨b,off,ha,hbl,d1,e1,d2,e2,s1,s2,-,-,-,c,-,-,-⟩:=stage_at HM.out hm
   have HE:Hid (ListEnd md 2 (m:Int) w (.returned (.tuple #[.slice _ (md.stages[m]'hm).closes.length _,.bool true])) w1):=listEnd_yes (by unfold isL;simp;omega) (senL_2 hm) HB1.out s2
   obtain ⟨sl,hsl⟩:∃sl,(md.stages[m]'hm).closes.length=sl:=⟨_,rfl⟩
   rw [hsl] at c HE
   have hy:=y3
   rw [ha] at hy
   clear s1 s2 hsl ha y3 hm
   go_enter Tryz.func58,Tryz.ntmps58
   go_upto_region 1 with fail
   rw [HW1.out]
   go_wp2_with fail
   refine bodyPost_ret (results_tmp2 (Tryz.results58) _ _ _) rfl ?_
   exact HE.out
  have i1:¬(m:Int)<(md.stages.length:Int):=by omega
  have HE:Hid (ListEnd md 2 (m:Int) w (.returned (.tuple #[.slice none 0 0,.bool false])) w1):=listEnd_no (by unfold isL;simp;omega) HB1.out
  clear hm
  go_enter Tryz.func58,Tryz.ntmps58
  go_upto_region 1 with fail
  rw [HW1.out]
  go_wp2_with fail
  refine bodyPost_ret (results_tmp2 (Tryz.results58) _ _ _) rfl ?_
  exact HE.out
 have e2:(k==2)=false:=by simpa using h2
 by_cases h3:k=3
 ·subst h3
  by_cases hm:m<md.stones.length
  ·have i1:(m:Int)<(md.stones.length:Int):=by omega
   obtain ⟨b,off,ha,hbl,d1,e1,d2,e2,s1,s2,-,c,-⟩:=stone_at HM.out hm
   have HE:Hid (ListEnd md 3 (m:Int) w (.returned (.tuple #[.slice _ (md.stones[m]'hm).done.length _,.bool true])) w1):=listEnd_yes (by unfold isL;simp;omega) (senL_3 hm) HB1.out s1
   obtain ⟨sl,hsl⟩:∃sl,(md.stones[m]'hm).done.length=sl:=⟨_,rfl⟩
   rw [hsl] at c HE
   have hy:=y4
   rw [ha] at hy
   clear s1 s2 hsl ha y4 hm
   go_enter Tryz.func58,Tryz.ntmps58
   go_upto_region 1 with fail
   rw [HW1.out]
   go_wp2_with fail
   refine bodyPost_ret (results_tmp2 (Tryz.results58) _ _ _) rfl ?_
   exact HE.out
  have i1:¬(m:Int)<(md.stones.length:Int):=by omega
  have HE:Hid (ListEnd md 3 (m:Int) w (.returned (.tuple #[.slice none 0 0,.bool false])) w1):=listEnd_no (by unfold isL;simp;omega) HB1.out
  clear hm
  go_enter Tryz.func58,Tryz.ntmps58
  go_upto_region 1 with fail
  rw [HW1.out]
  go_wp2_with fail
  refine bodyPost_ret (results_tmp2 (Tryz.results58) _ _ _) rfl ?_
  exact HE.out
 have e3:(k==3)=false:=by simpa using h3
 by_cases h4:k=4
 ·subst h4
  by_cases hm:m<md.stones.length
  ·have i1:(m:Int)<(md.stones.length:Int):=by omega
   obtain ⟨b,off,ha,hbl,d1,e1,d2,e2,s1,s2,-,-,c⟩:=stone_at HM.out hm
   have HE:Hid (ListEnd md 4 (m:Int) w (.returned (.tuple #[.slice _ (md.stones[m]'hm).undo.length _,.bool true])) w1):=listEnd_yes (by unfold isL;simp;omega) (senL_4 hm) HB1.out s2
   obtain ⟨sl,hsl⟩:∃sl,(md.stones[m]'hm).undo.length=sl:=⟨_,rfl⟩
   rw [hsl] at c HE
   have hy:=y4
   rw [ha] at hy
   clear s1 s2 hsl ha y4 hm
   go_enter Tryz.func58,Tryz.ntmps58
   go_upto_region 1 with fail
   rw [HW1.out]
   go_wp2_with fail
   refine bodyPost_ret (results_tmp2 (Tryz.results58) _ _ _) rfl ?_
   exact HE.out
  have i1:¬(m:Int)<(md.stones.length:Int):=by omega
  have HE:Hid (ListEnd md 4 (m:Int) w (.returned (.tuple #[.slice none 0 0,.bool false])) w1):=listEnd_no (by unfold isL;simp;omega) HB1.out
  clear hm
  go_enter Tryz.func58,Tryz.ntmps58
  go_upto_region 1 with fail
  rw [HW1.out]
  go_wp2_with fail
  refine bodyPost_ret (results_tmp2 (Tryz.results58) _ _ _) rfl ?_
  exact HE.out
 have e4:(k==4)=false:=by simpa using h4
 have HE:Hid (ListEnd md k (m:Int) w (.returned (.tuple #[.slice none 0 0,.bool false])) w1):=listEnd_no (by unfold isL;simp;omega) HB1.out
 clear h1 h2 h3 h4
 go_enter Tryz.func58,Tryz.ntmps58
 go_upto_region 1 with fail
 rw [HW1.out]
 go_wp2_with fail
 refine bodyPost_ret (results_tmp2 (Tryz.results58) _ _ _) rfl ?_
 exact HE.out
def atS (md:ModelD) (p:Pl):SentryD×Bool:=match senAt md p with
 | some s=>(s,true)
 | none=>(⟨0,⟨#[]⟩,⟨#[]⟩⟩,false)
theorem ret_at {W:World} {a:Act} {g:Nat} {x y z:Value} {b:Bool} {R:Ending->World->Prop} (h2:a.tmps.getD 4 undef=.pointer (some ⟨g,0,none⟩)) (h3:a.tmps.getD 5 undef=.bool b) (hd:a.defers=[])
  (hg:Arr W g 35 [x,y,z]) (hR:R (.returned (.tuple #[.agg #[x,y,z],.bool b])) W):bodyPost Tryz.prog Tryz.f24 R .ret a W:=by
 refine bodyPost_ret ?_ hd hR
 have h2':a.tmps[4]?.getD undef=.pointer (some ⟨g,0,none⟩):=by simpa using h2
 have h3':a.tmps[5]?.getD undef=.bool b:=by simpa using h3
 have x0:=hg.cell (j:=0) (by simp)
 have x1:=hg.cell (j:=1) (by simp)
 have x2:=hg.cell (j:=2) (by simp)
 simp only [gE0,gE1] at x0 x1 x2
 simp [results,Tryz.results24,h2',h3',go_sem,x0,x1,x2]
theorem senAt_list {md:ModelD} {p0 p1:Int} {i:Nat} (h:i<(senL md p0 p1).length):senAt md (p0,p1,(i:Int))=some (senL md p0 p1)[i]:=by
 unfold senAt
 rw [if_neg (by simp only;omega)]
 simp only [Int.toNat_natCast]
 exact List.getElem?_eq_getElem h
theorem senAt_out {md:ModelD} {p0 p1 p2:Int} (h:p2<0\/((senL md p0 p1).length:Int)<=p2):senAt md (p0,p1,p2)=none:=by
 unfold senAt
 split
 ·rfl
 rename_i h0
 simp only at h0
 exact List.getElem?_eq_none (by simp only;omega)
theorem rfAt_walk (md:ModelD) (v:ModelV) (p:Pl) (w:World) (hM:ModelM false (From 0) w md v) :
  Calls Tryz.prog 24 #[.agg (v.cs md).toArray,plV p] w (fun e w'=>e=.returned (.tuple #[.agg #[.int .u8 (atS md p).1.on,.string (atS md p).1.name,.string (atS md p).1.cond],.bool (atS md p).2])/\Below w.heap.size w w'):=by
 obtain ⟨p0,p1,p2⟩:=p
 simp only [plV]
 obtain ⟨wa,hwa⟩:∃wa,w.alloc (.cells (v.cs md).toArray 31)=wa:=⟨_,rfl⟩
 obtain ⟨wb,hwb⟩:∃wb,wa.alloc (.cells #[.int .i64 p0,.int .i64 p1,.int .i64 p2] 33)=wb:=⟨_,rfl⟩
 obtain ⟨w1,hw1⟩:∃w1,wb.alloc (.cells #[.int .u8 0,.string ⟨#[]⟩,.string ⟨#[]⟩] 35)=w1:=⟨_,rfl⟩
 have hza:wa.heap.size=w.heap.size+1:=by rw [<-hwa,size_alloc]
 have hzb:wb.heap.size=w.heap.size+1+1:=by rw [<-hwb,size_alloc,hza]
 have hba:Below w.heap.size w wa:=hwa▸(Below.refl _ _).alloc (Nat.le_refl _) _
 have hbb:Below w.heap.size w wb:=hwb▸hba.alloc (by omega) _
 have hb1:Below w.heap.size w w1:=hw1▸hbb.alloc (by omega) _
 have hx1:Arr w1 w.heap.size 31 (v.cs md):=hw1▸(show Arr wb _ _ _ from hwb▸(show Arr wa _ _ _ from hwa▸Arr.new w (v.cs md) _).alloc _).alloc _
 have hp1:Arr w1 (w.heap.size+1) 33 [.int .i64 p0,.int .i64 p1,.int .i64 p2]:=hw1▸(show Arr wb _ _ _ from by
  have:=Arr.new wa [.int .i64 p0,.int .i64 p1,.int .i64 p2] 33
  rw [hza] at this
  exact hwb▸this).alloc _
 have hs1:Arr w1 (w.heap.size+1+1) 35 [.int .u8 0,.string ⟨#[]⟩,.string ⟨#[]⟩]:=by
  have:=Arr.new wb [.int .u8 0,.string ⟨#[]⟩,.string ⟨#[]⟩] 35
  rw [hzb] at this
  exact hw1▸this
 have HC:=hid (rfList_walk md v p0 p1 w1 (hM.grow hb1))
 have HB1:=hid hb1
 have HWA:=hid hwa
 have HWB:=hid hwb
 have HW1:=hid hw1
 have HS1:=hid hs1
 have HP1:=hid hp1
 obtain ⟨y0,y1,y2,y3,y4,y5⟩:=box6 hx1 (Below.refl _ _)
 have z0:=hp1.cell (j:=0) (by simp)
 have z1:=hp1.cell (j:=1) (by simp)
 have z2:=hp1.cell (j:=2) (by simp)
 simp only [gE0,gE1] at z0 z1 z2
 obtain ⟨q,hq⟩:∃q,atS md (p0,p1,p2)=q:=⟨_,rfl⟩
 rw [hq]
 have HQ:=hid hq
 clear hM hba hbb hb1 hx1 hp1 hs1 hwa hwb hw1 hq hza hzb
 go_enter Tryz.func24,Tryz.ntmps24
 go_upto_region 1 with fail
 rw [HWA.out,HWB.out,HW1.out]
 go_wp2_with fail
 refine HC.out.mono ?_
 rintro e w2 ⟨hb2,va,vc,rfl,hm⟩
 have HB2:=hid (HB1.out.trans (hb2.mono HB1.out.size))
 have HP2:=hid (HP1.out.below hb2 HP1.out.lt)
 have HS2:=hid (HS1.out.below hb2 HS1.out.lt)
 obtain ⟨_,_,b,off,hvv,-,hC⟩:=flat_open hm
 injection hvv with e1 e2 e3
 subst e1 e3
 clear hb2 hm HC e2 y0 y1 y2 y3 y4 y5 z0 z1 z2
 have z2:=HP2.out.cell (j:=2) (by simp)
 simp only [gE0,gE1] at z2
 have s0:=HS2.out.cell (j:=0) (by simp)
 have s1:=HS2.out.cell (j:=1) (by simp)
 have s2:=HS2.out.cell (j:=2) (by simp)
 have f0:=HS2.out.frozen 0
 have f1:=HS2.out.frozen 1
 have f2:=HS2.out.frozen 2
 simp only [gE0,gE1] at s0 s1 s2
 obtain ⟨r,hr⟩:∃r,isL md p0 p1=r:=⟨_,rfl⟩
 rw [hr]
 have hnone:(p2<0\/((senL md p0 p1).length:Int)<=p2)->Hid ((⟨0,⟨#[]⟩,⟨#[]⟩⟩,false)=q):=fun h=>by
  show _=_
  rw [<-HQ.out,atS,senAt_out h]
 have HNO:=hid hnone
 clear hnone
 have fin:∀ {W:World},Hid ((⟨0,⟨#[]⟩,⟨#[]⟩⟩,false)=q)->Below w.heap.size w W->(Ending.returned (.tuple #[.agg #[.int .u8 0,.string ⟨#[]⟩,.string ⟨#[]⟩],.bool false])=Ending.returned (.tuple #[.agg #[.int .u8 q.1.on,.string q.1.name,.string q.1.cond],.bool q.2]))/\Below w.heap.size w W:=fun h hb=>by
  have h':=h.out
  subst h'
  exact ⟨rfl,hb⟩
 have HFIN:=hid (fun W h hb=>fin (W:=W) h hb)
 clear fin
 have HBZ:Hid (Below w.heap.size w (((w2.setCell ⟨w.heap.size+1+1,0,none⟩ (.int .u8 0)).setCell ⟨w.heap.size+1+1,1,none⟩ (.string ⟨#[]⟩)).setCell ⟨w.heap.size+1+1,2,none⟩ (.string ⟨#[]⟩))) :=
  ((HB2.out.setCell (p:=⟨w.heap.size+1+1,0,none⟩) (by show w.heap.size<=w.heap.size+1+1;omega) _).setCell (p:=⟨w.heap.size+1+1,1,none⟩) (by show w.heap.size<=w.heap.size+1+1;omega) _).setCell (p:=⟨w.heap.size+1+1,2,none⟩) (by show w.heap.size<=w.heap.size+1+1;omega) _
 cases r with
 | false =>
  have hl:(senL md p0 p1).length=0:=by rw [senL_no hr];rfl
  have HN:=hid (HNO.out (by omega))
  clear hr hl HNO HQ hC
  go_wp2_with fail
  refine ret_at rfl rfl rfl (((HS2.out.set 0 (.int .u8 0)).set 1 (.string ⟨#[]⟩)).set 2 (.string ⟨#[]⟩)) ?_
  exact HFIN.out _ HN HBZ.out
 | true =>
  clear hr
  by_cases hneg:p2<0
  ·have HN:=hid (HNO.out (.inl hneg))
   clear HNO HQ hC
   go_wp2_with fail
   refine ret_at rfl rfl rfl (((HS2.out.set 0 (.int .u8 0)).set 1 (.string ⟨#[]⟩)).set 2 (.string ⟨#[]⟩)) ?_
   exact HFIN.out _ HN HBZ.out
  obtain ⟨m,rfl⟩:∃m:Nat,p2=m:=⟨p2.toNat,by omega⟩
  have i2:¬(m:Int)<0:=by omega
  have i3:(0:Int)<=(m:Int):=by omega
  by_cases hlt:m<(senL md p0 p1).length
  ·have i1:(m:Int)<((senL md p0 p1).length:Int):=by omega
   have i4:¬((senL md p0 p1).length:Int)<=(m:Int):=by omega
   obtain ⟨ha,-,hbl⟩:=hC.at0 (by omega)
   obtain rfl:va=some ⟨b,off,none⟩:=ha
   have c0:w2.cell? ⟨b,off+m*3,none⟩=some (.int .u8 ((senL md p0 p1)[m]'hlt).on):=hC.cell m hlt 0 _ rfl
   have c1:w2.cell? ⟨b,off+m*3+1,none⟩=some (.string ((senL md p0 p1)[m]'hlt).name):=hC.cell m hlt 1 _ rfl
   have c2:w2.cell? ⟨b,off+m*3+2,none⟩=some (.string ((senL md p0 p1)[m]'hlt).cond):=hC.cell m hlt 2 _ rfl
   have HQ2:Hid (((senL md p0 p1)[m]'hlt,true)=q):=by show _=_;rw [<-HQ.out,atS,senAt_list hlt]
   obtain ⟨sd,hsd⟩:∃sd,(senL md p0 p1)[m]'hlt=sd:=⟨_,rfl⟩
   rw [hsd] at c0 c1 c2 HQ2
   obtain ⟨sl,hsl⟩:∃sl,(senL md p0 p1).length=sl:=⟨_,rfl⟩
   rw [hsl] at i1 i4 ⊢
   have HBS:Hid (Below w.heap.size w (((w2.setCell ⟨w.heap.size+1+1,0,none⟩ (.int .u8 sd.on)).setCell ⟨w.heap.size+1+1,1,none⟩ (.string sd.name)).setCell ⟨w.heap.size+1+1,2,none⟩ (.string sd.cond))) :=
    ((HB2.out.setCell (p:=⟨w.heap.size+1+1,0,none⟩) (by show w.heap.size<=w.heap.size+1+1;omega) _).setCell (p:=⟨w.heap.size+1+1,1,none⟩) (by show w.heap.size<=w.heap.size+1+1;omega) _).setCell (p:=⟨w.heap.size+1+1,2,none⟩) (by show w.heap.size<=w.heap.size+1+1;omega) _
   clear hsd hsl hlt HNO HQ hC hneg
   go_wp2_with fail
   refine ret_at rfl rfl rfl (((HS2.out.set 0 (.int .u8 sd.on)).set 1 (.string sd.name)).set 2 (.string sd.cond)) ?_
   have h':=HQ2.out
   subst h'
   exact ⟨rfl,HBS.out⟩
  have i4:((senL md p0 p1).length:Int)<=(m:Int):=by omega
  have HN:=hid (HNO.out (.inr i4))
  clear HNO HQ hC hlt
  go_wp2_with fail
  refine ret_at rfl rfl rfl (((HS2.out.set 0 (.int .u8 0)).set 1 (.string ⟨#[]⟩)).set 2 (.string ⟨#[]⟩)) ?_
  exact HFIN.out _ HN HBZ.out
theorem elemPlR:Elem Tryz.prog 42 33 3 24:=⟨Tryz.underlying42,⟨.agg #[.int .i64 0,.int .i64 0,.int .i64 0],by kernel_rfl,rfl⟩,by omega,Tryz.sizeOf33⟩
theorem own_snocR {w:World} {base:Nat} {va:Option Addr} {vc:Nat} {rs:List Pl} (p:Pl) (h:Own w base 33 3 va vc rs.length (rs.flatMap plC)) (hb:base<=w.heap.size) (hl:rs.length<=4000000) :
  ∃g' vc' w',(Builtin.append_ #[42,42] 42 #[.slice va rs.length vc,.slice (some ⟨w.heap.size,0,none⟩) 1 1]).run Tryz.prog (w.alloc (.cells #[.int .i64 p.1,.int .i64 p.2.1,.int .i64 p.2.2] 33))=.ok (.slice (some ⟨g',0,none⟩) (rs.length+1) vc') w' /\
   Own w' base 33 3 (some ⟨g',0,none⟩) vc' (rs++[p]).length ((rs++[p]).flatMap plC)/\Below base w w'/\w.grownBy w' (blockOf va):=by
 have hA:=Arr.new w [.int .i64 p.1,.int .i64 p.2.1,.int .i64 p.2.2] 33
 have hc0:=hA.cell (j:=0) (by simp)
 have hc1:=hA.cell (j:=1) (by simp)
 have hc2:=hA.cell (j:=2) (by simp)
 have ho:=h.alloc (.cells #[.int .i64 p.1,.int .i64 p.2.1,.int .i64 p.2.2] 33)
 have hb4:Below base w (w.alloc (.cells #[.int .i64 p.1,.int .i64 p.2.1,.int .i64 p.2.2] 33)):=(Below.refl _ _).alloc hb _
 obtain ⟨va',vc',w',hap,ho5,hg5⟩:=Own.app elemPlR 42 ho (by rw [size_alloc];omega) (some ⟨w.heap.size,0,none⟩) 1 1 w.heap.size 0 [.int .i64 p.1,.int .i64 p.2.1,.int .i64 p.2.2] rfl (fun _=>rfl) (fun j u hj=>by
  match j,hj with
  | 0,hj=>simp at hj;subst hj;exact hc0
  | 1,hj=>simp at hj;subst hj;exact hc1
  | 2,hj=>simp at hj;subst hj;exact hc2
  | j+3,hj=>simp at hj) (fun u hu=>by
  simp only [List.mem_cons,List.not_mem_nil,or_false] at hu
  rcases hu with rfl | rfl | rfl<;>rfl) (by unfold maxLen;omega) (by omega)
 have hva:∃g',va'=some ⟨g',0,none⟩:=by
  rcases ho5.block with ⟨_,h0,_⟩ | ⟨g,h1,_⟩
  ·omega
  exact ⟨g,h1⟩
 obtain ⟨g',rfl⟩:=hva
 refine ⟨g',vc',w',hap,by simpa [plC] using ho5,hb4.grown hg5 (by rw [size_alloc];omega) (fun j hj=>?_),(World.grownBy_alloc _ _ _).trans hg5⟩
 rcases ho.block with ⟨h1,_⟩ | ⟨g,h1,h2,_⟩
 ·rw [h1] at hj;cases hj
 rw [h1] at hj;cases hj;exact h2
def OutP (W:World) (B:Nat) (va:Option Addr) (vc L:Nat) (out:List Pl):Prop:=L=out.length/\Own W B 33 3 va vc L (out.flatMap plC)
theorem OutP.nil (W:World) (B:Nat):OutP W B none 0 0 []:=⟨rfl,by simpa using Own.nil W B _ 3⟩
theorem OutP.below {W W':World} {B:Nat} {va:Option Addr} {vc L:Nat} {out:List Pl} (h:OutP W B va vc L out) (hb:Below W.heap.size W W'):OutP W' B va vc L out:=⟨h.1,h.2.below hb (Nat.le_refl _)⟩
theorem OutP.snoc {W:World} {B:Nat} {va:Option Addr} {vc L:Nat} {out:List Pl} (p:Pl) (h:OutP W B va vc L out) (hb:B<=W.heap.size) (hl:L<=4000000) :
  ∃g' vc' w',(Builtin.append_ #[42,42] 42 #[.slice va L vc,.slice (some ⟨W.heap.size,0,none⟩) 1 1]).run Tryz.prog (W.alloc (.cells #[.int .i64 p.1,.int .i64 p.2.1,.int .i64 p.2.2] 33))=.ok (.slice (some ⟨g',0,none⟩) (L+1) vc') w' /\
   OutP w' B (some ⟨g',0,none⟩) vc' (L+1) (out++[p])/\Below B W w':=by
 obtain ⟨rfl,ho⟩:=h
 obtain ⟨g',vc',w',h1,h2,h3,-⟩:=own_snocR p ho hb hl
 have e:(out++[p]).length=out.length+1:=by simp
 rw [e] at h2
 exact ⟨g',vc',w',h1,⟨e.symm,h2⟩,h3⟩
theorem OutP.mem {W:World} {B:Nat} {va:Option Addr} {vc L:Nat} {out:List Pl} (h:OutP W B va vc L out):Mem false (From 0) W (flatL 3 plC out) (.slice va out.length vc):=by
 obtain ⟨rfl,ho⟩:=h
 exact (flat_own (f:=plC) ho (by omega) (fun _=>rfl)).read
def PlEnd (md:ModelD) (w:World) (e:Ending) (w':World):Prop:=Below w.heap.size w w'/\∃va vc,e=.returned (.slice va (placesL md).length vc)/\Mem false (From 0) w' (flatL 3 plC (placesL md)) (.slice va (placesL md).length vc)
theorem rfPlaces_walk (md:ModelD) (v:ModelV) (w:World) (hz:md.Sml) (hmany:manyN md<=128) (hM:ModelM false (From 0) w md v) :
  Calls Tryz.prog 57 #[.agg (v.cs md).toArray] w (PlEnd md w):=by
 obtain ⟨w1,hw1⟩:∃w1,w.alloc (.cells (v.cs md).toArray 31)=w1:=⟨_,rfl⟩
 have hb1:Below w.heap.size w w1:=hw1▸(Below.refl _ _).alloc (Nat.le_refl _) _
 have hx1:Arr w1 w.heap.size 31 (v.cs md):=hw1▸Arr.new w (v.cs md) _
 have HL:=hid (fun (k n:Int) W (hb:Below w1.heap.size w1 W)=>rfList_walk md v k n W (hM.grow (hb1.trans (hb.mono hb1.size))))
 have HX:=hid hx1
 have HB1:=hid hb1
 have HW1:=hid hw1
 have hmx:max (md.stages.length:Int) (md.stones.length:Int)=(maxN md:Int):=by unfold maxN;omega
 have hmx2:maxN md<=1048576:=by have:=hz.stages;have:=hz.stones;unfold maxN;omega
 have HMY:=hid hmany
 obtain ⟨N,hN⟩:∃N,maxN md=N:=⟨_,rfl⟩
 rw [hN] at hmx hmx2
 have HN:=hid hN
 obtain ⟨y0,y1,y2,y3,y4,y5⟩:=box6 hx1 (Below.refl _ _)
 clear hM hb1 hx1 hw1 hz hmany hN
 go_enter Tryz.func57,Tryz.ntmps57
 go_upto_region 1 with fail
 rw [HW1.out]
 go_wp2_with fail
 go_loopw [3,4] (fun o k wr=>∃(kk K:Nat) (va:Option Addr) (vc L:Nat),kk<=4/\Hid (K=kk+1)/\k=.int .i64 (K:Int)/\o=.slice va L vc/\Hid (OutP wr w1.heap.size va vc L (upK md kk))/\Hid (Below w1.heap.size w1 wr)) (fun _ k _=>5-(intOf k).toNat)
 case atStart=>exact ⟨0,1,none,0,0,by omega,rfl,rfl,rfl,OutP.nil _ _,Below.refl _ _⟩
 obtain ⟨kk,K,va,vc,L,hkk,HK,rfl,rfl,HO,HB⟩:=hrel
 by_cases hk4:kk<4
 ·have i1:(K:Int)<=4:=by have:=HK.out;omega
  have HK4:=hid hk4
  have kw:IntKind.i64.wrap ((K:Int)+1)=(K:Int)+1:=wrap_i64 (by omega) (by omega)
  obtain ⟨wo,rfl⟩:∃wo,wo=wr:=⟨_,rfl⟩
  go_wp2_with fail
  go_loopw [3,5] (fun o i wr=>∃(n:Nat) (va:Option Addr) (vc L:Nat),n<=N/\i=.int .i64 (n:Int)/\o=.slice va L vc/\Hid (OutP wr w1.heap.size va vc L (upK md kk++upN md K n))/\Hid (Below w1.heap.size w1 wr)) (fun _ i _=>N-(intOf i).toNat)
  case atStart=>exact ⟨0,va,vc,L,Nat.zero_le _,rfl,rfl,(by show OutP _ _ _ _ _ _;rw [upN_zero,List.append_nil];exact HO.out),HB.out⟩
  clear HO HB
  obtain ⟨n,va,vc,L,hnN,rfl,rfl,HO,HB⟩:=hrel
  clear y0 y1 y2 y3 y4 y5
  obtain ⟨y0,y1,y2,y3,y4,y5⟩:=box6 HX.out HB.out
  by_cases hlt:n<N
  ·have i2:(n:Int)<(N:Int):=by omega
   have HNL:=hid hlt
   have nw:IntKind.i64.wrap ((n:Int)+1)=(n:Int)+1:=wrap_i64 (by omega) (by omega)
   have HC:=hid (HL.out (K:Int) (n:Int) wr HB.out)
   obtain ⟨wn,rfl⟩:∃wn,wn=wr:=⟨_,rfl⟩
   obtain ⟨sl,hsl⟩:∃sl,(senL md (K:Int) (n:Int)).length=sl:=⟨_,rfl⟩
   have HSL:=hid hsl
   go_wp2_with fail
   refine HC.out.mono ?_
   rintro e w2 ⟨hb2,va2,vc2,rfl,-⟩
   rw [hsl]
   have HB2:=hid (HB.out.trans (hb2.mono HB.out.size))
   have HO2:=hid (HO.out.below hb2)
   have hcap:sl<=128:=by
    have h1:=up_len md (k:=kk) (n:=n) (i:=sl) HK4.out (by rw [HN.out];exact hlt) (by rw [<-HK.out,hsl];exact Nat.le_refl _)
    rw [List.length_append,List.length_append,show (rowN (kk+1) n sl).length=sl by simp [rowN]] at h1
    have:=HMY.out
    omega
   clear hb2 HC hsl HO HB y0 y1 y2 y3 y4 y5
   go_wp2_with fail
   go_loopw [3,8] (fun o i wr=>∃(m:Nat) (va:Option Addr) (vc L:Nat),m<=sl/\i=.int .i64 (m:Int)/\o=.slice va L vc/\Hid (OutP wr w1.heap.size va vc L (upK md kk++(upN md K n++rowN K n m)))/\Hid (Below w1.heap.size w1 wr)) (fun _ i _=>sl-(intOf i).toNat)
   case atStart=>exact ⟨0,va,vc,L,Nat.zero_le _,rfl,rfl,(by show OutP _ _ _ _ _ _;rw [rowN_zero,List.append_nil];exact HO2.out),HB2.out⟩
   clear HO2 HB2
   obtain ⟨m,va,vc,L,hml,rfl,rfl,HO,HB⟩:=hrel
   by_cases hms:m<sl
   ·have i3:(m:Int)<(sl:Int):=by omega
    have HMS:=hid hms
    have mw:IntKind.i64.wrap ((m:Int)+1)=(m:Int)+1:=wrap_i64 (by omega) (by omega)
    have hL:L<=128:=by
     have h1:=up_len md (k:=kk) (n:=n) (i:=m) HK4.out (by rw [HN.out];exact HNL.out) (by rw [<-HK.out,HSL.out];omega)
     rw [<-HK.out,<-HO.out.1] at h1
     have:=HMY.out
     omega
    obtain ⟨g',vc',w',hap,ho',hb'⟩:=HO.out.snoc ((K:Int),(n:Int),(m:Int)) HB.out.size (by omega)
    have he:(upK md kk++(upN md K n++rowN K n m))++[((K:Int),(n:Int),(m:Int))]=upK md kk++(upN md K n++rowN K n (m+1)):=by rw [rowN_succ];simp only [List.append_assoc]
    rw [he] at ho'
    have HAP:=hid hap
    have HO':=hid ho'
    have HB':=hid (HB.out.trans hb')
    clear hap ho' hb' he hL HO HB
    go_wp2_with (at_builtin;refine wpList_append_run (by rfl) (.tmp 37) (.tmp 42) 42 (by rfl) (by rfl) (by rfl) HAP.out ?_)
    refine ⟨⟨m+1,_,_,_,by have:=HMS.out;omega,by go_num,rfl,HO',HB'⟩,by simp only [intOf];have:=HMS.out;omega⟩
   obtain rfl:m=sl:=by omega
   have i3:¬(m:Int)<(m:Int):=by omega
   have HO2:Hid (OutP wr w1.heap.size va vc L (upK md kk++upN md K (n+1))):=by
    show OutP _ _ _ _ _ _
    rw [upN_succ,fullN,HSL.out]
    exact HO.out
   clear HO
   go_wp2_with fail
   refine ⟨⟨n+1,va,vc,L,by have:=HNL.out;omega,by go_num,rfl,HO2,HB⟩,by simp only [intOf];have:=HNL.out;omega⟩
  obtain rfl:n=N:=by omega
  have i2:¬(n:Int)<(n:Int):=by omega
  have HO2:Hid (OutP wr w1.heap.size va vc L (upK md (kk+1))):=by
   show OutP _ _ _ _ _ _
   have h:=HO.out
   rw [HK.out,<-HN.out,<-upK_succ] at h
   exact h
  have HK2:Hid (K+1=(kk+1)+1):=by show _=_;rw [HK.out]
  clear HO
  go_wp2_with fail
  refine ⟨⟨kk+1,K+1,va,vc,L,by have:=HK4.out;omega,HK2,by go_num,rfl,HO2,HB⟩,by simp only [intOf];have:=HK.out;have:=HK4.out;omega⟩
 obtain rfl:kk=4:=by omega
 have hK5:K=5:=HK.out
 have i1:¬(K:Int)<=4:=by omega
 clear hK5
 have HE:Hid (PlEnd md w (.returned (.slice va L vc)) wr):=by
  have h:=HO.out
  rw [upK_all] at h
  have hl:=h.1
  subst hl
  exact ⟨HB1.out.trans (HB.out.mono HB1.out.size),va,vc,rfl,h.mem⟩
 clear HO
 go_wp2_with fail
 go_ret
 exact HE.out
end Go.Proofs.YtfbbkmdhnkmonaaGreatDoor
