/- Proved, each under the conditions that it names: Digits, plain; the reference's number, plain; Guards as texts: tokens and the grammar, plain; A variable's block, whole; cells that stay; A reader's own block, and guards in memory. -/
import Derived.Lib.AtoiAll
import Derived.Lib.ItoaNum
import Derived.Test.YtfbbkmdhnkmonaaGreatDoorT01
import Derived.Deep.MidRow
import Derived.Lib.ParseIntB
import Derived.Lib.SlicesS
import Derived.Shelf.Strings.SlTrimAscii
import Derived.Deep.DeepCutAuto
import Derived.Deep.CutBlock
set_option maxRecDepth 100000
set_option maxHeartbeats 32000000
namespace Go.Proofs.YtfbbkmdhnkmonaaGreatDoor
open Go.RowKit
def isDig (c:UInt8):Prop:=48<=c.toNat/\c.toNat<=57
theorem dec_dig:∀(u:Nat),∀c∈Lib.decDigits u,isDig c:=by
 intro u
 induction u using Nat.strongRecOn with
 | _ u ih =>
  intro c hc
  rw [Lib.decDigits] at hc
  split at hc
  ·rename_i h
   simp at hc
   subst hc
   unfold isDig
   simp
   omega
  rcases List.mem_append.1 hc with h1 | h1
  ·exact ih (u / 10) (by omega) c h1
  simp at h1
  subst h1
  unfold isDig
  simp
  omega
theorem dec_ne (u:Nat):Lib.decDigits u≠[]:=by
 intro h
 have h1:=Lib.decDigits_length u
 have h2:=Lib.nDigits_pos u
 rw [h] at h1
 simp at h1
 omega
def spell (acc:Nat):List UInt8->Nat
 | []=>acc
 | c :: r=>spell (acc*10+(c.toNat-48)) r
theorem spell_append (ys:List UInt8):∀(xs:List UInt8) (acc:Nat),spell acc (xs++ys)=spell (spell acc xs) ys
 | [],_=>rfl
 | _ :: r,_=>spell_append ys r _
theorem spell_ge:∀(l:List UInt8) (acc:Nat),acc<=spell acc l
 | [],_=>Nat.le_refl _
 | c :: r,acc=>Nat.le_trans (by omega) (spell_ge r (acc*10+(c.toNat-48)))
theorem spell_dec:∀(u:Nat),spell 0 (Lib.decDigits u)=u:=by
 intro u
 induction u using Nat.strongRecOn with
 | _ u ih =>
  by_cases h:u<10
  ·rw [Lib.decDigits,dif_pos h]
   show 0*10+((UInt8.ofNat (48+u)).toNat-48)=u
   rw [UInt8.toNat_ofNat']
   omega
  rw [Lib.decDigits,dif_neg h,spell_append,ih (u / 10) (by omega)]
  show u / 10*10+((UInt8.ofNat (48+u % 10)).toNat-48)=u
  rw [UInt8.toNat_ofNat']
  omega
theorem dec_head:∀(u:Nat),1<=u->(Lib.decDigits u).head?≠some 48:=by
 intro u
 induction u using Nat.strongRecOn with
 | _ u ih =>
  intro h1
  by_cases h:u<10
  ·rw [Lib.decDigits,dif_pos h]
   intro he
   have he2:UInt8.ofNat (48+u)=48:=by simpa using he
   have:=congrArg UInt8.toNat he2
   rw [UInt8.toNat_ofNat'] at this
   have e:(48:UInt8).toNat=48:=rfl
   rw [e] at this
   omega
  rw [Lib.decDigits,dif_neg h]
  have h2:=ih (u / 10) (by omega) (by omega)
  have h3:=dec_ne (u / 10)
  generalize Lib.decDigits (u / 10)=l at h2 h3 ⊢
  cases l with
  | nil=>exact absurd rfl h3
  | cons c r=>exact h2
theorem nd_le:∀(k u:Nat),u<10 ^ (k+1)->Lib.nDigits u<=k+1
 | 0,u,h=>by rw [Lib.nDigits_small (by simpa using h)];omega
 | k+1,u,h=>by
  by_cases hu:u<10
  ·rw [Lib.nDigits_small hu];omega
  rw [Lib.nDigits_big hu]
  have:=nd_le k (u / 10) (by rw [Nat.pow_succ] at h;omega)
  omega
def numberB (s:List UInt8):Int:=if s=[]\/13<s.length\/(s.head? = some 48/\s≠[48]) then -1 else if s.all (fun c=>decide (48<=c.toNat/\c.toNat<=57)) then (spell 0 s:Int) else -1
inductive GT where
 | leaf (k:Nat) (n:Int) (s:ByteArray)
 | one (k:Nat) (a:GT)
 | two (k:Nat) (a b:GT)
def GT.deep:GT->Nat
 | .leaf ..=>1
 | .one _ a=>a.deep+1
 | .two _ a b=>max a.deep b.deep+1
def letterB (c:UInt8):Bool:=decide (97<=c.toNat/\c.toNat<=122)||decide (48<=c.toNat/\c.toNat<=57)||c==45||c==95||c==46
def digitB (c:UInt8):Bool:=decide (48<=c.toNat/\c.toNat<=57)
def quotB (c:UInt8):Bool:=decide (32<=c.toNat/\c.toNat<=126)&&c != 39
def signsB:List UInt8:=[61,60,43,45,42,40,41,48]
def longB:List UInt8->Nat
 | []=>0
 | c :: r =>
  if signsB.contains c then 1
  else if 49<=c.toNat/\c.toNat<=57 then (if spell 0 (c :: r.takeWhile digitB)<=9223372036854775807 then (r.takeWhile digitB).length+1 else 0)
  else if c=39 then (if (r.takeWhile (· != 39)).length<r.length/\(r.takeWhile (· != 39)).all quotB then (r.takeWhile (· != 39)).length+2 else 0)
  else if 97<=c.toNat/\c.toNat<=122 then (if (r.takeWhile letterB).length+1<=32 then (r.takeWhile letterB).length+1 else 0)
  else 0
structure GSt where
 i:Nat
 pos:Nat
 now:ByteArray
def fromB (s:ByteArray) (i:Nat):Nat:=i+((s.data.toList.drop i).takeWhile (·==32)).length
def stepB (s:ByteArray) (i:Nat):Except Nat GSt :=
 if fromB s i=s.size then .ok ⟨fromB s i,fromB s i,⟨#[]⟩⟩
 else if longB (s.data.toList.drop (fromB s i))=0 then .error (fromB s i)
 else .ok ⟨fromB s i+longB (s.data.toList.drop (fromB s i)),fromB s i,s.extract (fromB s i) (fromB s i+longB (s.data.toList.drop (fromB s i)))⟩
theorem takeWhile_le {p:UInt8->Bool} (l:List UInt8):(l.takeWhile p).length<=l.length:=(List.takeWhile_sublist p).length_le
theorem longB_le:∀l:List UInt8,longB l<=l.length
 | []=>Nat.le_refl _
 | c :: r=>by
  have h1:=takeWhile_le (p:=digitB) r
  have h2:=takeWhile_le (p:=letterB) r
  unfold longB
  simp only [List.length_cons]
  split
  ·omega
  split
  ·split<;>omega
  split
  ·split
   ·rename_i h;omega
   omega
  split
  ·split<;>omega
  omega
theorem fromB_ge (s:ByteArray) (i:Nat):i<=fromB s i:=Nat.le_add_right _ _
theorem fromB_le (s:ByteArray) {i:Nat} (h:i<=s.size):fromB s i<=s.size:=by
 have h1:=takeWhile_le (p:=(·==32)) (s.data.toList.drop i)
 rw [List.length_drop,ba_len] at h1
 unfold fromB
 omega
theorem stepB_ok {s:ByteArray} {i:Nat} {st:GSt} (hi:i<=s.size) (h:stepB s i=.ok st):i<=st.i/\st.i<=s.size/\st.pos<=st.i/\i<=st.pos/\(st.now.size=0\/(st.pos<st.i/\st.now.size=st.i-st.pos)):=by
 have h1:=fromB_ge s i
 have h2:=fromB_le s hi
 have h3:=longB_le (s.data.toList.drop (fromB s i))
 rw [List.length_drop,ba_len] at h3
 unfold stepB at h
 split at h
 ·injection h with h;subst h
  exact ⟨h1,h2,Nat.le_refl _,h1,.inl rfl⟩
 split at h
 ·cases h
 injection h with h;subst h
 refine ⟨by simp only;omega,by simp only;omega,by simp only;omega,h1,.inr ⟨by simp only;omega,?_⟩⟩
 simp only [ByteArray.size_extract]
 omega
inductive NT where
 | guard | side | part | sum | product | atom
abbrev PR:=Option (Except Nat (GT×GSt))
def bsOf (l:List UInt8):ByteArray:=⟨l.toArray⟩
abbrev orS:ByteArray:=⟨#[111,114]⟩
abbrev andS:ByteArray:=⟨#[97,110,100]⟩
abbrev notS:ByteArray:=⟨#[110,111,116]⟩
abbrev trueS:ByteArray:=⟨#[116,114,117,101]⟩
abbrev falseS:ByteArray:=⟨#[102,97,108,115,101]⟩
abbrev openS:ByteArray:=⟨#[111,112,101,110]⟩
abbrev doneS:ByteArray:=⟨#[100,111,110,101]⟩
abbrev eqS:ByteArray:=⟨#[61]⟩
abbrev ltS:ByteArray:=⟨#[60]⟩
abbrev addS:ByteArray:=⟨#[43]⟩
abbrev subS:ByteArray:=⟨#[45]⟩
abbrev mulS:ByteArray:=⟨#[42]⟩
abbrev lparS:ByteArray:=⟨#[40]⟩
abbrev rparS:ByteArray:=⟨#[41]⟩
def takenB (s:ByteArray):Bool:=decide (s=andS\/s=orS\/s=notS\/s=trueS\/s=falseS\/s=openS\/s=doneS)
def namedG (s:ByteArray):Bool:=decide (0<s.size)&&decide (s.size<=32)&&decide (97<=(s.data.toList.headD 0).toNat/\(s.data.toList.headD 0).toNat<=122)&&!takenB s&&s.data.toList.all letterB
def needB (s:ByteArray) (x:ByteArray) (st:GSt):Except Nat GSt:=if st.now=x then stepB s st.i else .error st.pos
def kOr (x:ByteArray):Option Nat:=if x=orS then some 10 else none
def kAnd (x:ByteArray):Option Nat:=if x=andS then some 9 else none
def kSum (x:ByteArray):Option Nat:=if x=addS then some 13 else if x=subS then some 14 else none
def kMul (x:ByteArray):Option Nat:=if x=mulS then some 15 else none
def kRel (x:ByteArray):Option Nat:=if x=eqS then some 11 else if x=ltS then some 12 else none
def rowL (s:ByteArray) (one:GSt->PR) (kinds:ByteArray->Option Nat):Nat->GT->GSt->PR
 | 0,_,_=>none
 | f+1,g,st=>match kinds st.now with
  | none=>some (.ok (g,st))
  | some k=>match stepB s st.i with
   | .error a=>some (.error a)
   | .ok st1=>match one st1 with
    | none=>none
    | some (.error a)=>some (.error a)
    | some (.ok (h,st2))=>rowL s one kinds f (.two k g h) st2
def thenP (r:PR) (k:GT->GSt->PR):PR:=match r with
 | none=>none
 | some (.error a)=>some (.error a)
 | some (.ok (g,st))=>k g st
def thenS (r:Except Nat GSt) (k:GSt->PR):PR:=match r with
 | .error a=>some (.error a)
 | .ok st=>k st
def nameB (s:ByteArray) (st:GSt) (k:ByteArray->GSt->PR):PR:=if namedG st.now then thenS (stepB s st.i) (k st.now) else some (.error st.pos)
def atomL (s:ByteArray) (guard:GSt->PR) (st:GSt):PR :=
 if st.now=trueS then thenS (stepB s st.i) fun st1=>some (.ok (.leaf 1 0 ⟨#[]⟩,st1))
 else if st.now=falseS then thenS (stepB s st.i) fun st1=>some (.ok (.leaf 2 0 ⟨#[]⟩,st1))
 else if st.now=openS\/st.now=doneS then thenS (stepB s st.i) fun st1=>thenS (needB s lparS st1) fun st2=>nameB s st2 fun x st3=>thenS (needB s rparS st3) fun st4=>some (.ok (.leaf (if st.now=doneS then 7 else 6) 0 x,st4))
 else if st.now=lparS then thenS (stepB s st.i) fun st1=>thenP (guard st1) fun g st2=>thenS (needB s rparS st2) fun st3=>some (.ok (g,st3))
 else if 0<st.now.size/\digitB (st.now.data.toList.headD 0) then thenS (stepB s st.i) fun st1=>some (.ok (.leaf 3 (spell 0 st.now.data.toList) ⟨#[]⟩,st1))
 else if 0<st.now.size/\st.now.data.toList.headD 0=39 then thenS (stepB s st.i) fun st1=>some (.ok (.leaf 4 0 (st.now.extract 1 (st.now.size-1)),st1))
 else nameB s st fun x st1=>some (.ok (.leaf 5 0 x,st1))
def pars (s:ByteArray):Nat->NT->GSt->PR
 | 0,_,_=>none
 | f+1,.guard,st=>thenP (pars s f .side st) fun g st1=>rowL s (pars s f .side) kOr f g st1
 | f+1,.side,st=>thenP (pars s f .part st) fun g st1=>rowL s (pars s f .part) kAnd f g st1
 | f+1,.part,st =>
  if st.now=notS then thenS (stepB s st.i) fun st1=>thenP (pars s f .part st1) fun g st2=>some (.ok (.one 8 g,st2))
  else thenP (pars s f .sum st) fun g st1=>match kRel st1.now with
   | none=>some (.ok (g,st1))
   | some k=>thenS (stepB s st1.i) fun st2=>thenP (pars s f .sum st2) fun h st3=>some (.ok (.two k g h,st3))
 | f+1,.sum,st=>thenP (pars s f .product st) fun g st1=>rowL s (pars s f .product) kSum f g st1
 | f+1,.product,st=>thenP (pars s f .atom st) fun g st1=>rowL s (pars s f .atom) kMul f g st1
 | f+1,.atom,st=>atomL s (pars s f .guard) st
def readG (s:ByteArray) (f:Nat):Option (Except (Nat×Int) GT):=match stepB s 0 with
 | .error a=>some (.error (a,170))
 | .ok st=>match pars s f .guard st with
  | none=>none
  | some (.error a)=>some (.error (a,170))
  | some (.ok (g,st1))=>if st1.now.size≠0 then some (.error (st1.pos,170)) else if 32<g.deep then some (.error (0,161)) else some (.ok g)
theorem thenP_some {r:PR} {k:GT->GSt->PR} {x:Except Nat (GT×GSt)} (h:thenP r k=some x):(∃a,r=some (.error a)/\x=.error a)\/∃g st,r=some (.ok (g,st))/\k g st=some x:=by
 unfold thenP at h
 split at h
 ·cases h
 ·rename_i a;injection h with h;exact .inl ⟨a,rfl,h.symm⟩
 rename_i g st;exact .inr ⟨g,st,rfl,h⟩
def Up (p q:GSt->PR):Prop:=∀st x,p st=some x->q st=some x
theorem rowL_up {s:ByteArray} {p q:GSt->PR} (hpq:Up p q) (kinds:ByteArray->Option Nat):∀(f f':Nat) (g:GT) (st:GSt) (x:Except Nat (GT×GSt)),f<=f'->rowL s p kinds f g st=some x->rowL s q kinds f' g st=some x
 | 0,_,_,_,_,_,h=>by cases h
 | f+1,0,_,_,_,hf,_=>by omega
 | f+1,f' + 1,g,st,x,hf,h=>by
  rw [rowL] at h ⊢
  cases hk:kinds st.now with
  | none=>rw [hk] at h;exact h
  | some k =>
   rw [hk] at h
   simp only at h ⊢
   cases hs:stepB s st.i with
   | error a=>rw [hs] at h;exact h
   | ok st1 =>
    rw [hs] at h
    simp only at h ⊢
    cases ho:p st1 with
    | none=>rw [ho] at h;cases h
    | some y =>
     rw [hpq _ _ ho]
     rw [ho] at h
     cases y with
     | error a=>exact h
     | ok z=>exact rowL_up hpq kinds f f' _ _ _ (by omega) h
theorem thenP_up {r r':PR} {k k':GT->GSt->PR} (hr:∀x,r=some x->r'=some x) (hk:∀g st x,k g st=some x->k' g st=some x) {x:Except Nat (GT×GSt)} (h:thenP r k=some x):thenP r' k'=some x:=by
 rcases thenP_some h with ⟨a,rfl,rfl⟩ | ⟨g,st,rfl,h2⟩
 ·rw [hr _ rfl];rfl
 rw [hr _ rfl];exact hk _ _ _ h2
theorem thenS_up {r:Except Nat GSt} {k k':GSt->PR} (hk:∀st x,k st=some x->k' st=some x) {x:Except Nat (GT×GSt)} (h:thenS r k=some x):thenS r k'=some x:=by
 cases r with
 | error a=>exact h
 | ok st=>exact hk _ _ h
theorem atomL_up {s:ByteArray} {p q:GSt->PR} (hpq:Up p q) {st:GSt} {x:Except Nat (GT×GSt)} (h:atomL s p st=some x):atomL s q st=some x:=by
 unfold atomL at *
 split
 ·rename_i h1;rw [if_pos h1] at h;exact h
 rename_i h1;rw [if_neg h1] at h
 split
 ·rename_i h2;rw [if_pos h2] at h;exact h
 rename_i h2;rw [if_neg h2] at h
 split
 ·rename_i h3;rw [if_pos h3] at h;exact h
 rename_i h3;rw [if_neg h3] at h
 split
 ·rename_i h4;rw [if_pos h4] at h
  exact thenS_up (fun st1 y hy=>thenP_up (fun z hz=>hpq _ _ hz) (fun _ _ _ h=>h) hy) h
 rename_i h4;rw [if_neg h4] at h
 exact h
theorem pars_up1 (s:ByteArray):∀(f:Nat) (nt:NT),Up (pars s f nt) (pars s (f+1) nt)
 | 0,_,_,_,h=>by cases h
 | f+1,.guard,st,x,h=>by
  rw [pars] at h ⊢
  exact thenP_up (fun y hy=>pars_up1 s f .side _ _ hy) (fun g st1 y hy=>rowL_up (pars_up1 s f .side) kOr f (f+1) g st1 y (by omega) hy) h
 | f+1,.side,st,x,h=>by
  rw [pars] at h ⊢
  exact thenP_up (fun y hy=>pars_up1 s f .part _ _ hy) (fun g st1 y hy=>rowL_up (pars_up1 s f .part) kAnd f (f+1) g st1 y (by omega) hy) h
 | f+1,.part,st,x,h=>by
  rw [pars] at h ⊢
  split
  ·rename_i h1
   rw [if_pos h1] at h
   exact thenS_up (fun st1 y hy=>thenP_up (fun z hz=>pars_up1 s f .part _ _ hz) (fun _ _ _ h=>h) hy) h
  rename_i h1
  rw [if_neg h1] at h
  refine thenP_up (fun z hz=>pars_up1 s f .sum _ _ hz) (fun g st1 y hy=>?_) h
  cases hk:kRel st1.now with
  | none=>rw [hk] at hy;exact hy
  | some k =>
   rw [hk] at hy
   exact thenS_up (fun st2 z hz=>thenP_up (fun u hu=>pars_up1 s f .sum _ _ hu) (fun _ _ _ h=>h) hz) hy
 | f+1,.sum,st,x,h=>by
  rw [pars] at h ⊢
  exact thenP_up (fun y hy=>pars_up1 s f .product _ _ hy) (fun g st1 y hy=>rowL_up (pars_up1 s f .product) kSum f (f+1) g st1 y (by omega) hy) h
 | f+1,.product,st,x,h=>by
  rw [pars] at h ⊢
  exact thenP_up (fun y hy=>pars_up1 s f .atom _ _ hy) (fun g st1 y hy=>rowL_up (pars_up1 s f .atom) kMul f (f+1) g st1 y (by omega) hy) h
 | f+1,.atom,st,x,h=>by
  rw [pars] at h ⊢
  exact atomL_up (pars_up1 s f .guard) h
theorem pars_up {s:ByteArray} {f f':Nat} (hf:f<=f') (nt:NT):Up (pars s f nt) (pars s f' nt):=by
 induction hf with
 | refl=>exact fun _ _ h=>h
 | step _ ih=>exact fun st x h=>pars_up1 s _ nt _ _ (ih st x h)
theorem pars_fun {s:ByteArray} {f f':Nat} {nt:NT} {st:GSt} {x y:Except Nat (GT×GSt)} (h:pars s f nt st=some x) (h':pars s f' nt st=some y):x=y:=by
 have h1:=pars_up (Nat.le_max_left f f') nt _ _ h
 have h2:=pars_up (Nat.le_max_right f f') nt _ _ h'
 rw [h1] at h2
 exact Option.some.inj h2
theorem readG_fun {s:ByteArray} {f f':Nat} {x y:Except (Nat×Int) GT} (h:readG s f=some x) (h':readG s f'=some y):x=y:=by
 unfold readG at h h'
 cases hs:stepB s 0 with
 | error a=>rw [hs] at h h';simp only at h h';rw [h] at h';exact Option.some.inj h'
 | ok st =>
  rw [hs] at h h'
  simp only at h h'
  cases h1:pars s f .guard st with
  | none=>rw [h1] at h;cases h
  | some u =>
   cases h2:pars s f' .guard st with
   | none=>rw [h2] at h';cases h'
   | some v =>
    obtain rfl:=pars_fun h1 h2
    rw [h1] at h;rw [h2] at h'
    rw [h] at h'
    exact Option.some.inj h'
theorem wrap_i64 {x:Int} (h:-9223372036854775808<=x) (h':x<=9223372036854775807):IntKind.i64.wrap x=x:=by
 simp [IntKind.wrap,IntKind.bits,IntKind.signed]
 omega
structure Arr (w:World) (g:Nat) (t:TypeId) (vs:List Value):Prop where
 heap:w.heap[g]? = some (.cells vs.toArray t (0,0))
theorem Arr.cell {w:World} {g:Nat} {t:TypeId} {vs:List Value} (h:Arr w g t vs) {j:Nat} (hj:j<vs.length):w.cell? ⟨g,j,none⟩=some vs[j]:=by
 simp [World.cell?,h.heap,hj]
theorem Arr.range {w:World} {g:Nat} {t:TypeId} {vs:List Value} (h:Arr w g t vs):w.rangeAt g 0 vs:=fun j v hv=>by
 rw [Nat.zero_add]
 have hj:j<vs.length:=by
  rcases Nat.lt_or_ge j vs.length with h | h
  ·exact h
  rw [List.getElem?_eq_none h] at hv;cases hv
 rw [List.getElem?_eq_getElem hj] at hv
 rw [<-hv]
 exact h.cell hj
theorem Arr.frozen {w:World} {g:Nat} {t:TypeId} {vs:List Value} (h:Arr w g t vs) (j:Nat):w.frozen? ⟨g,j,none⟩=false:=by
 simp [World.frozen?,h.heap]
theorem Arr.lt {w:World} {g:Nat} {t:TypeId} {vs:List Value} (h:Arr w g t vs):g<w.heap.size:=(Array.getElem?_eq_some_iff.1 h.heap).1
theorem Arr.drew {w:World} {g:Nat} {t:TypeId} {vs:List Value} (h:Arr w g t vs):Arr w.drew g t vs:=⟨h.heap⟩
theorem Arr.drewN {w:World} {g:Nat} {t:TypeId} {vs:List Value} (h:Arr w g t vs) (n:Nat):Arr (w.drewN n) g t vs:=⟨h.heap⟩
theorem Arr.alloc {w:World} {g:Nat} {t:TypeId} {vs:List Value} (h:Arr w g t vs) (o:Obj):Arr (w.alloc o) g t vs:=⟨(Below.heap_alloc w o g h.lt).trans h.heap⟩
theorem Arr.set {w:World} {g:Nat} {t:TypeId} {vs:List Value} (h:Arr w g t vs) (j:Nat) (u:Value):Arr (w.setCell ⟨g,j,none⟩ u) g t (vs.set j u):=by
 refine ⟨?_⟩
 simp only [World.setCell,Array.getElem?_modify,h.heap]
 simp
theorem Arr.far {w:World} {g:Nat} {t:TypeId} {vs:List Value} (h:Arr w g t vs) {a:Addr} (hne:g≠a.block) (u:Value):Arr (w.setCell a u) g t vs:=⟨(Below.heap_setCell w a u g hne).trans h.heap⟩
theorem Arr.below {B:Nat} {w w':World} {g:Nat} {t:TypeId} {vs:List Value} (h:Arr w g t vs) (hb:Below B w w') (hg:g<B):Arr w' g t vs:=⟨(hb.block g hg).trans h.heap⟩
theorem Arr.new (w:World) (vs:List Value) (t:TypeId):Arr (w.alloc (.cells vs.toArray t (0,0))) w.heap.size t vs:=⟨by simp [show (w.alloc (.cells vs.toArray t (0,0))).heap=w.heap.push (.cells vs.toArray t (0,0)) from rfl]⟩
structure KeepR (R:Nat) (w w':World):Prop where
 os:w'.os=w.os
 tape:w'.tape=w.tape
 output:w'.output=w.output
 size:w.heap.size<=w'.heap.size
 block:∀k,k<w.heap.size->k≠R->w'.heap[k]? = w.heap[k]?
theorem KeepR.refl (R:Nat) (w:World):KeepR R w w:=⟨rfl,rfl,rfl,Nat.le_refl _,fun _ _ _=>rfl⟩
theorem KeepR.trans {R:Nat} {a b c:World} (h:KeepR R a b) (h2:KeepR R b c):KeepR R a c :=
 ⟨h2.os.trans h.os,h2.tape.trans h.tape,h2.output.trans h.output,Nat.le_trans h.size h2.size,fun k hk hR=>(h2.block k (Nat.lt_of_lt_of_le hk h.size) hR).trans (h.block k hk hR)⟩
theorem KeepR.of {R:Nat} {w w':World} (h:Below w.heap.size w w'):KeepR R w w':=⟨h.os,h.tape,h.output,h.size,fun k hk _=>h.block k hk⟩
theorem KeepR.next {R:Nat} {w w1 w':World} (h:KeepR R w w1) (hb:Below w1.heap.size w1 w'):KeepR R w w':=h.trans (.of hb)
theorem KeepR.alloc {R:Nat} {w w':World} (h:KeepR R w w') (o:Obj):KeepR R w (w'.alloc o):=h.next ((Below.refl _ _).alloc (Nat.le_refl _) o)
theorem KeepR.drew {R:Nat} {w w':World} (h:KeepR R w w'):KeepR R w w'.drew:=h.next (Below.refl _ _).drew
theorem KeepR.setCell {R j:Nat} {w w':World} (h:KeepR R w w') (v:Value):KeepR R w (w'.setCell ⟨R,j,none⟩ v):=by
 have hb:=(Below.refl 0 w').setCell (p:=⟨R,j,none⟩) (Nat.zero_le _) v
 exact ⟨hb.os.trans h.os,hb.tape.trans h.tape,hb.output.trans h.output,Nat.le_trans h.size hb.size,fun k hk hR=>(Below.heap_setCell w' ⟨R,j,none⟩ v k hR).trans (h.block k hk hR)⟩
theorem KeepR.below {R B:Nat} {w w':World} (h:KeepR R w w') (hB:B<=R) (hw:B<=w.heap.size):Below B w w' :=
 ⟨h.os,h.tape,h.output,h.size,fun k hk=>h.block k (by omega) (by omega)⟩
theorem Arr.keepR {R g:Nat} {w w':World} {t:TypeId} {vs:List Value} (h:Arr w g t vs) (hk:KeepR R w w') (hg:g≠R):Arr w' g t vs:=⟨(hk.block g h.lt hg).trans h.heap⟩
theorem KeepR.setNew {R:Nat} {w w':World} (h:KeepR R w w') {p:Addr} (hp:w.heap.size<=p.block) (v:Value):KeepR R w (w'.setCell p v):=by
 have hb:=(Below.refl 0 w').setCell (p:=p) (Nat.zero_le _) v
 exact ⟨hb.os.trans h.os,hb.tape.trans h.tape,hb.output.trans h.output,Nat.le_trans h.size hb.size,fun k hk hR=>(Below.heap_setCell w' p v k (by omega)).trans (h.block k hk hR)⟩
def GIs (X:Nat->Prop) (w:World):GT->List Value->Prop
 | .leaf k n s,cs=>cs=[.int .u8 k,.int .i64 n,.string s,.slice none 0 0]
 | .one k a,cs=>∃b da,cs=[.int .u8 k,.int .i64 0,.string ⟨#[]⟩,.slice (some ⟨b,0,none⟩) 1 1]/\¬X b/\Arr w b 80 da/\GIs X w a da
 | .two k a a2,cs=>∃b da db,cs=[.int .u8 k,.int .i64 0,.string ⟨#[]⟩,.slice (some ⟨b,0,none⟩) 2 2]/\¬X b/\Arr w b 80 (da++db)/\GIs X w a da/\GIs X w a2 db
theorem GIs.keep {X:Nat->Prop} {w w':World} (hk:∀k,k<w.heap.size->¬X k->w'.heap[k]? = w.heap[k]?):∀ {t:GT} {cs:List Value},GIs X w t cs->GIs X w' t cs
 | .leaf ..,_,h=>h
 | .one ..,_,⟨b,da,h1,h2,h3,h4⟩=>⟨b,da,h1,h2,⟨(hk b h3.lt h2).trans h3.heap⟩,h4.keep hk⟩
 | .two ..,_,⟨b,da,db,h1,h2,h3,h4,h5⟩=>⟨b,da,db,h1,h2,⟨(hk b h3.lt h2).trans h3.heap⟩,h4.keep hk,h5.keep hk⟩
theorem GIs.keepR {X:Nat->Prop} {R:Nat} {w w':World} (hX:X R) (hk:KeepR R w w') {t:GT} {cs:List Value} (h:GIs X w t cs):GIs X w' t cs :=
 h.keep fun k hl hx=>hk.block k hl (fun e=>hx (e▸hX))
theorem GIs.below {X:Nat->Prop} {w w':World} (hb:Below w.heap.size w w') {t:GT} {cs:List Value} (h:GIs X w t cs):GIs X w' t cs:=h.keep fun k hl _=>hb.block k hl
theorem GIs.setCell {X:Nat->Prop} {w:World} {p:Addr} (hX:X p.block) (v:Value) {t:GT} {cs:List Value} (h:GIs X w t cs):GIs X (w.setCell p v) t cs :=
 h.keep fun k _ hx=>Below.heap_setCell w p v k (fun e=>hx (e▸hX))
theorem GIs.mono {X Y:Nat->Prop} {w:World} (hXY:∀k,k<w.heap.size->Y k->X k):∀ {t:GT} {cs:List Value},GIs X w t cs->GIs Y w t cs
 | .leaf ..,_,h=>h
 | .one ..,_,⟨b,da,h1,h2,h3,h4⟩=>⟨b,da,h1,fun hy=>h2 (hXY b h3.lt hy),h3,h4.mono hXY⟩
 | .two ..,_,⟨b,da,db,h1,h2,h3,h4,h5⟩=>⟨b,da,db,h1,fun hy=>h2 (hXY b h3.lt hy),h3,h4.mono hXY,h5.mono hXY⟩
theorem GIs.four {X:Nat->Prop} {w:World}:∀ {t:GT} {cs:List Value},GIs X w t cs->∃(k:Nat) (n:Int) (s:ByteArray) (a:Option Addr) (l c:Nat),cs=[.int .u8 k,.int .i64 n,.string s,.slice a l c]
 | .leaf k n s,_,h=>⟨k,n,s,none,0,0,h⟩
 | .one k _,_,⟨_,_,h1,_⟩=>⟨k,0,⟨#[]⟩,_,1,1,h1⟩
 | .two k _ _,_,⟨_,_,_,h1,_⟩=>⟨k,0,⟨#[]⟩,_,2,2,h1⟩
def RdIs (R:Nat) (w:World) (s:ByteArray) (st:GSt):Prop:=Arr w R 129 [.string s,.int .i64 (st.i:Int),.int .i64 (st.pos:Int),.string st.now]
theorem u8_all {p:UInt8->Prop} (h:∀n:Fin 256,p (UInt8.ofNat n.val)) (c:UInt8):p c:=by
 have:=h ⟨c.toNat,c.toNat_lt⟩
 simpa using this
theorem letter_walk (c:UInt8) (w:World):Calls Tryz.prog 116 #[.int .u8 (c.toNat:Int)] w fun e w'=>e=.returned (.bool (letterB c))/\w=w':=by
 obtain ⟨n,hn⟩:∃n,c.toNat=n:=⟨_,rfl⟩
 have e:letterB c=(decide (97<=n/\n<=122)||decide (48<=n/\n<=57)||decide (n=45)||decide (n=95)||decide (n=46)):=by
  have h:∀k:UInt8,(c==k)=decide (n=k.toNat):=fun k=>by
   rw [Bool.eq_iff_iff,beq_iff_eq,decide_eq_true_eq,<-hn]
   exact UInt8.toNat_inj.symm
  rw [letterB,hn,h,h,h];rfl
 have hn2:n<256:=by have:=c.toNat_lt;omega
 rw [hn,e]
 clear e hn
 go_enter Tryz.func116,Tryz.ntmps116
 go_wp2
 all_goals (go_ret;exact ⟨ret_bool (by first | rfl | (rw [Bool.eq_iff_iff];simp<;>omega)),rfl⟩)
def quotR (r:Nat):Bool:=decide (32<=r)&&decide (r<=126)&&decide (r≠39)
def letR (r:Nat):Bool:=decide (r<128)&&letterB (UInt8.ofNat r)
theorem quot_eq (c:UInt8):quotB c=quotR c.toNat:=by
 refine u8_all (p:=fun c=>quotB c=quotR c.toNat) ?_ c
 decide +kernel
theorem let_eq (c:UInt8):letterB c=letR c.toNat:=by
 refine u8_all (p:=fun c=>letterB c=letR c.toNat) ?_ c
 decide +kernel
theorem idx_any {pR:Nat->Bool} {pB:UInt8->Bool} (hp:∀c:UInt8,pB c=pR c.toNat) (hbig:∀r,128<=r->pR r=false) (s:ByteArray):∀(f pos:Nat),s.size<=pos+f->decide (0<=Lib.idxFuncFrom (fun r=>!pR r) true s f pos) = !((s.data.toList.drop pos).all pB)
 | 0,pos,h=>by
  rw [List.drop_of_length_le (by rw [ba_len];omega)]
  rfl
 | f+1,pos,h=>by
  unfold Lib.idxFuncFrom
  by_cases hq:pos<s.size
  ·have hd:s.data.toList.drop pos=s[pos] :: s.data.toList.drop (pos+1):=by
    rw [List.drop_eq_getElem_cons (by rw [ba_len];exact hq)];rfl
   rw [if_pos hq,hd,List.all_cons]
   by_cases hb:(s.get! pos).toNat<128
   ·rw [decode_small s pos hb]
    have hn:pR (s.get! pos).toNat=pB s[pos]:=by rw [get!_eq s pos hq,hp]
    dsimp only
    rw [hn]
    cases hc:pB s[pos]
    ·simp
    simp only [Bool.not_true,Bool.false_eq_true,if_false,Bool.true_and]
    exact idx_any hp hbig s f (pos+1) (by omega)
   have h1:=hbig _ (decode_big s pos (by omega))
   have h2:pB s[pos]=false:=by
    rw [hp,<-get!_eq s pos hq]
    exact hbig _ (by omega)
   rw [h1,h2];simp
  rw [if_neg hq,List.drop_of_length_le (by rw [ba_len];omega)]
  rfl
theorem idx_neg {pR:Nat->Bool} {pB:UInt8->Bool} (hp:∀c:UInt8,pB c=pR c.toNat) (hbig:∀r,128<=r->pR r=false) (s:ByteArray):decide (Lib.idxFunc (fun r=>!pR r) true s<0)=s.data.toList.all pB:=by
 have h:=idx_any hp hbig s s.size 0 (by omega)
 rw [List.drop_zero] at h
 have h2:decide (Lib.idxFunc (fun r=>!pR r) true s<0) = !decide (0<=Lib.idxFunc (fun r=>!pR r) true s):=by
  rw [Bool.eq_iff_iff];simp
 rw [h2]
 show (!decide (0<=Lib.idxFuncFrom (fun r=>!pR r) true s s.size 0))=_
 rw [h];simp
theorem quoted1_walk (w:World):PredGrows Tryz.prog 143 #[] (fun r=>!quotR r) w:=fun W r hr _=>by
 show Calls Tryz.prog 143 #[.int .i32 r] W fun e w'=>e=.returned (.bool (!quotR r))/\Below W.heap.size W w'
 have e:(!quotR r)=(decide ((r:Int)<32)||decide ((126:Int)<r)||decide ((r:Int)=39)):=by
  rw [Bool.eq_iff_iff];simp [quotR]<;>omega
 rw [e]
 clear e
 go_enter Tryz.func143,Tryz.ntmps143
 go_wp2
 all_goals (go_ret;exact ⟨ret_bool (by first | rfl | (rw [Bool.eq_iff_iff];simp<;>omega)),Below.refl _ _⟩)
theorem quoted_walk (s:ByteArray) (w:World):Calls Tryz.prog 115 #[.string s] w fun e w'=>e=.returned (.bool (s.data.toList.all quotB))/\Below w.heap.size w w':=by
 have hc:=Tryz.strings_IndexFunc_grows 143 #[] (enters_of Tryz.func143 (by kernel_rfl) rfl) _ s w (quoted1_walk w)
 have hi:=idx_neg quot_eq (fun r h=>by simp [quotR]<;>omega) s
 obtain ⟨b,hb⟩:∃b,s.data.toList.all quotB=b:=⟨_,rfl⟩
 rw [hb] at hi ⊢
 generalize Lib.idxFunc (fun r=>!quotR r) true s=x at *
 clear hb
 go_enter Tryz.func115,Tryz.ntmps115
 go_wp2_with (go_at_call 142;refine hc.mono ?_;rintro e w2 ⟨rfl,hb2⟩)
 go_ret
 exact ⟨rfl,hb2⟩
theorem named1_walk (w:World):PredGrows Tryz.prog 176 #[] (fun r=>!letR r) w:=fun W r hr _=>by
 show Calls Tryz.prog 176 #[.int .i32 r] W fun e w'=>e=.returned (.bool (!letR r))/\Below W.heap.size W w'
 by_cases h:r<128
 ·have hl:=letter_walk (UInt8.ofNat r)
  have hrn:(UInt8.ofNat r).toNat=r:=by rw [UInt8.toNat_ofNat'];omega
  have e:letR r=letterB (UInt8.ofNat r):=by simp [letR,h]
  have wr:IntKind.u8.wrap (r:Int)=(r:Int):=by rw [IntKind.wrap_u8];omega
  rw [hrn] at hl
  rw [e]
  generalize letterB (UInt8.ofNat r)=b at *
  have d:¬(127:Int)<r:=by omega
  clear hrn e hr h
  go_enter Tryz.func176,Tryz.ntmps176
  go_wp2_with (go_at_call 116;refine (hl _).mono ?_;rintro e w2 ⟨rfl,rfl⟩)
  go_ret
  exact ⟨rfl,Below.refl _ _⟩
 have e:letR r=false:=by simp [letR,h]
 rw [e]
 have d:(127:Int)<r:=by omega
 clear e hr h
 go_enter Tryz.func176,Tryz.ntmps176
 go_wp2
 go_ret
 exact ⟨rfl,Below.refl _ _⟩
theorem taken_walk (s:ByteArray) (w:World):Calls Tryz.prog 175 #[.string s] w fun e w'=>e=.returned (.bool (takenB s))/\Below w.heap.size w w':=by
 have hc:=Tryz.slices_Contains_string w.heap.size 0 7 7 [andS,orS,notS,trueS,falseS,openS,doneS] s (w.alloc (.cells #[.string andS,.string orS,.string notS,.string trueS,.string falseS,.string openS,.string doneS] 9)) (by simp) (by omega) (fun j hj=>by
  match j,hj with
  | 0,_=>go_simp
  | 1,_=>go_simp
  | 2,_=>go_simp
  | 3,_=>go_simp
  | 4,_=>go_simp
  | 5,_=>go_simp
  | 6,_=>go_simp)
 have e:Lib.containsS ([andS,orS,notS,trueS,falseS,openS,doneS].take 7) s=takenB s:=by
  rw [Bool.eq_iff_iff,Lib.containsS_iff,takenB,decide_eq_true_eq]
  simp
 rw [e] at hc
 generalize takenB s=b at *
 go_enter Tryz.func175,Tryz.ntmps175
 go_wp2_with (go_at_call 88;refine hc.mono ?_;rintro e w2 ⟨rfl,rfl⟩)
 go_ret
 exact ⟨rfl,(Below.refl _ _).alloc (Nat.le_refl _) _⟩
theorem parse_digits:∀(l:List UInt8) (acc:Nat),l.all digitB=true->acc<=18446744073709551615->Lib.parseUintM 18446744073709551615 acc l=if spell acc l<=18446744073709551615 then Lib.NumEnd.ok (spell acc l) else Lib.NumEnd.range
 | [],acc,_,h=>by rw [Lib.parseUintM];show _=if acc<=_ then Lib.NumEnd.ok acc else _;rw [if_pos h]
 | c :: r,acc,hd,h=>by
  simp only [List.all_cons,Bool.and_eq_true] at hd
  have hc:48<=c.toNat/\c.toNat<=57:=by simpa [digitB] using hd.1
  have hs:spell acc (c :: r)=spell (acc*10+(c.toNat-48)) r:=rfl
  have hg:=spell_ge r (acc*10+(c.toNat-48))
  rw [Lib.parseUintM,if_pos hc,hs]
  by_cases h1:1844674407370955162<=acc
  ·rw [if_pos h1,if_neg (by omega)]
  rw [if_neg h1]
  by_cases h2:18446744073709551615<acc*10+(c.toNat-48)
  ·rw [if_pos h2,if_neg (by omega)]
  rw [if_neg h2]
  exact parse_digits r _ hd.2 (by omega)
theorem parseInt_digits {l:List UInt8} (hne:l≠[]) (hd:l.all digitB=true):Lib.parseIntB 64 l=if spell 0 l<=9223372036854775807 then Lib.NumEnd.ok (spell 0 l:Int) else Lib.NumEnd.range:=by
 cases l with
 | nil=>exact absurd rfl hne
 | cons c r =>
  have hc:48<=c.toNat/\c.toNat<=57:=by
   simp only [List.all_cons,Bool.and_eq_true] at hd
   simpa [digitB] using hd.1
  have hp:=parse_digits (c :: r) 0 hd (by omega)
  unfold Lib.parseIntB
  dsimp only
  rw [if_neg (by omega),Lib.parseUintB,if_neg (by simp),show 2 ^ 64-1=18446744073709551615 by rfl,hp]
  by_cases h1:spell 0 (c :: r)<=18446744073709551615
  ·rw [if_pos h1]
   dsimp only
   by_cases h2:spell 0 (c :: r)<=9223372036854775807
   ·rw [if_neg (by omega),if_neg (by omega),if_neg (by omega),if_pos h2]
   rw [if_pos ⟨by omega,by omega⟩,if_neg h2]
  rw [if_neg h1,if_neg (by omega)]
theorem head_eq {s:ByteArray} (h:0<s.size):s.data.toList.headD 0=s[0]:=by
 have h1:s.data.toList=s[0] :: s.data.toList.drop 1:=by
  rw [<-List.drop_zero (l:=s.data.toList),List.drop_eq_getElem_cons (by rw [ba_len];exact h)];rfl
 rw [h1];rfl
theorem namedG_walk (s:ByteArray) (w:World):Calls Tryz.prog 146 #[.string s] w fun e w'=>e=.returned (.bool (namedG s))/\Below w.heap.size w w':=by
 have HT:=hid (taken_walk s w)
 have HI:=hid (fun (W:World)=>Tryz.strings_IndexFunc_grows 176 #[] (enters_of Tryz.func176 (by kernel_rfl) rfl) _ s W (named1_walk W))
 have hi:=idx_neg let_eq (fun r h=>by simp [letR];omega) s
 obtain ⟨R,hR⟩:∃R,namedG s=R:=⟨_,rfl⟩
 rw [hR]
 by_cases h0:0<s.size
 rotate_left
 ·have HF:Hid (R=false):=by show _=_;rw [<-hR,namedG,decide_eq_false h0];simp
  have d0:decide (0<(s.size:Int))=false:=decide_eq_false (by omega)
  clear hR hi
  go_enter Tryz.func146,Tryz.ntmps146
  go_wp2_with fail
  go_ret
  exact ⟨ret_bool HF.out.symm,Below.refl _ _⟩
 have d0:decide (0<(s.size:Int))=true:=decide_eq_true (by omega)
 by_cases h32:s.size<=32
 rotate_left
 ·have HF:Hid (R=false):=by show _=_;rw [<-hR,namedG,decide_eq_false h32];simp
  have d1:decide ((s.size:Int)<=32)=false:=decide_eq_false (by omega)
  clear hR hi
  go_enter Tryz.func146,Tryz.ntmps146
  go_wp2_with fail
  go_ret
  exact ⟨ret_bool HF.out.symm,Below.refl _ _⟩
 have d1:decide ((s.size:Int)<=32)=true:=decide_eq_true (by omega)
 rw [namedG,decide_eq_true h0,decide_eq_true h32,head_eq h0] at hR
 have i0:(0:Int)<(s.size:Int):=by omega
 by_cases ha:97<=(s[0].toNat:Int)
 rotate_left
 ·have HF:Hid (R=false):=by show _=_;rw [<-hR,decide_eq_false (by omega)];simp
  have d2:decide (97<=(s[0].toNat:Int))=false:=decide_eq_false ha
  clear hR hi
  go_enter Tryz.func146,Tryz.ntmps146
  go_wp2_with fail
  go_ret
  exact ⟨ret_bool HF.out.symm,Below.refl _ _⟩
 have d2:decide (97<=(s[0].toNat:Int))=true:=decide_eq_true ha
 by_cases hz:(s[0].toNat:Int)<=122
 rotate_left
 ·have HF:Hid (R=false):=by show _=_;rw [<-hR,decide_eq_false (by omega)];simp
  have d3:decide ((s[0].toNat:Int)<=122)=false:=decide_eq_false hz
  clear hR hi
  go_enter Tryz.func146,Tryz.ntmps146
  go_wp2_with fail
  go_ret
  exact ⟨ret_bool HF.out.symm,Below.refl _ _⟩
 have d3:decide ((s[0].toNat:Int)<=122)=true:=decide_eq_true hz
 rw [decide_eq_true (show 97<=s[0].toNat/\s[0].toNat<=122 by omega)] at hR
 simp only [Bool.true_and] at hR
 cases ht:takenB s
 ·rw [ht] at HT hR
  simp only [Bool.not_false,Bool.true_and] at hR
  rw [hR] at hi
  generalize Lib.idxFunc (fun r=>!letR r) true s=x at *
  have HF:=hid hi
  clear hR ht hi
  go_enter Tryz.func146,Tryz.ntmps146
  go_wp2_with fail
  refine HT.out.mono ?_
  rintro e w2 ⟨rfl,hb2⟩
  have HB2:=hid hb2
  clear hb2
  go_wp2_with fail
  refine (HI.out _).mono ?_
  rintro e w3 ⟨rfl,hb3⟩
  have HB3:=hid (HB2.out.trans (hb3.mono HB2.out.size))
  clear hb3
  go_wp2_with fail
  go_ret
  exact ⟨ret_bool HF.out,HB3.out⟩
 rw [ht] at HT hR
 have HF:Hid (R=false):=by show _=_;rw [<-hR];simp
 clear hR ht hi
 go_enter Tryz.func146,Tryz.ntmps146
 go_wp2_with fail
 refine HT.out.mono ?_
 rintro e w2 ⟨rfl,hb2⟩
 have HB2:=hid hb2
 clear hb2
 go_wp2_with fail
 go_ret
 exact ⟨ret_bool HF.out.symm,HB2.out⟩
theorem drop_at {s:ByteArray} {j:Nat} (h:j<s.size):s.data.toList.drop j=s[j] :: s.data.toList.drop (j+1):=by
 rw [List.drop_eq_getElem_cons (by rw [ba_len];exact h)];rfl
theorem fromB_next {s:ByteArray} {j:Nat} (h:j<s.size) (h32:s[j]=32):fromB s (j+1)=fromB s j:=by
 have h2:(s[j]==(32:UInt8))=true:=by rw [h32];rfl
 unfold fromB
 rw [drop_at h,List.takeWhile_cons,if_pos h2,List.length_cons]
 omega
theorem fromB_stop {s:ByteArray} {j:Nat} (h:j<s.size) (h32:s[j]≠32):fromB s j=j:=by
 have h2:¬(s[j]==(32:UInt8))=true:=by simpa using h32
 unfold fromB
 rw [drop_at h,List.takeWhile_cons,if_neg h2]
 rfl
theorem fromB_end (s:ByteArray):fromB s s.size=s.size:=by
 unfold fromB
 rw [List.drop_of_length_le (by rw [ba_len];exact Nat.le_refl _)]
 rfl
theorem sign_idx (c:UInt8):decide (0<=Lib.indexByte signsB c)=signsB.contains c:=by
 refine u8_all (p:=fun c=>decide (0<=Lib.indexByte signsB c)=signsB.contains c) ?_ c
 decide +kernel
def tenB:List UInt8:=[48,49,50,51,52,53,54,55,56,57]
theorem ten_eq (c:UInt8):tenB.contains c=digitB c:=by
 refine u8_all (p:=fun c=>tenB.contains c=digitB c) ?_ c
 decide +kernel
theorem idx_quote:∀l:List UInt8,Lib.indexByte l 39=if (l.takeWhile (· != 39)).length<l.length then ((l.takeWhile (· != 39)).length:Int) else -1
 | []=>rfl
 | c :: r=>by
  rw [Lib.indexByte,idx_quote r,List.takeWhile_cons]
  by_cases h:c=39
  ·subst h;simp
  have h1:(c==(39:UInt8))=false:=by simpa using h
  have h2:(c != (39:UInt8))=true:=by simpa using h
  rw [h1,h2]
  simp only [Bool.false_eq_true,if_false,if_true,List.length_cons,Nat.add_lt_add_iff_right]
  split
  ·rw [if_neg (by simp<;>omega)]<;>omega
  simp
theorem take_takeWhile {p:UInt8->Bool} (l:List UInt8):l.take (l.takeWhile p).length=l.takeWhile p :=
 (List.prefix_iff_eq_take.1 (List.takeWhile_prefix p)).symm
def GW (R:Nat) (w:World):Prop:=(∃t p,w.cell? ⟨2,0,none⟩=some (.iface t p))/\2≠R
theorem KeepR.cell {R:Nat} {w w':World} (h:KeepR R w w') {b o:Nat} {v:Value} (hc:w.cell? ⟨b,o,none⟩=some v) (hb:b≠R):w'.cell? ⟨b,o,none⟩=some v :=
 (World.cell?_of_block (h.block b (World.block_lt_of_cell? w _ hc) hb)).trans hc
theorem GW.keep {R:Nat} {w w':World} (h:GW R w) (hk:KeepR R w w'):GW R w':=by
 obtain ⟨⟨t,p,hc⟩,hne⟩:=h
 exact ⟨⟨t,p,hk.cell hc hne⟩,hne⟩
abbrev faultE (a:Nat):Ending:=.panicked [{ v:=.iface 124 (.int .i64 (a:Int)),recovered:=false }]
def StepEnd (R:Nat) (s:ByteArray) (r:Except Nat GSt) (w:World) (e:Ending) (w':World):Prop :=
 KeepR R w w'/\match r with
  | .ok st=>e=.returned (.tuple #[])/\RdIs R w' s st
  | .error a=>e=faultE a
theorem rd_cells {R:Nat} {w:World} {s:ByteArray} {st:GSt} (h:RdIs R w s st):w.cell? ⟨R,0,none⟩=some (.string s)/\w.cell? ⟨R,1,none⟩=some (.int .i64 (st.i:Int))/\w.cell? ⟨R,2,none⟩=some (.int .i64 (st.pos:Int))/\w.cell? ⟨R,3,none⟩=some (.string st.now) :=
 ⟨Arr.cell h (j:=0) (by simp),Arr.cell h (j:=1) (by simp),Arr.cell h (j:=2) (by simp),Arr.cell h (j:=3) (by simp)⟩
theorem rd_frozen {R:Nat} {w:World} {s:ByteArray} {st:GSt} (h:RdIs R w s st) (j:Nat):w.frozen? ⟨R,j,none⟩=false:=Arr.frozen h j
def atI (R:Nat) (w:World):Nat:=(intOf ((w.cell? ⟨R,1,none⟩).getD undef)).toNat
theorem atI_eq {R:Nat} {w:World} {s:ByteArray} {st:GSt} (h:RdIs R w s st):atI R w=st.i:=by
 rw [atI,(rd_cells h).2.1];simp [intOf]
theorem rd_set {R:Nat} {w:World} {s:ByteArray} {st:GSt} {i:Nat} (h:RdIs R w s st):RdIs R (w.setCell ⟨R,1,none⟩ (.int .i64 (i:Int))) s ⟨i,st.pos,st.now⟩:=Arr.set h 1 _
theorem rd_set2 {R:Nat} {w:World} {s:ByteArray} {st:GSt} {p:Nat} {n:ByteArray} (h:RdIs R w s st):RdIs R ((w.setCell ⟨R,2,none⟩ (.int .i64 (p:Int))).setCell ⟨R,3,none⟩ (.string n)) s ⟨st.i,p,n⟩:=Arr.set (Arr.set h 2 _) 3 _
theorem KeepR.drewN {R:Nat} {w w':World} (h:KeepR R w w') (n:Nat):KeepR R w (w'.drewN n):=h.next (below_drewN (Below.refl _ _) n)
theorem rd_drewN {R:Nat} {w:World} {s:ByteArray} {st:GSt} (h:RdIs R w s st) (n:Nat):RdIs R (w.drewN n) s st:=Arr.drewN h n
theorem trim_walk (s:ByteArray) (w:World):Calls Tryz.prog 113 #[.string s,.string ⟨#[48,49,50,51,52,53,54,55,56,57]⟩] w fun e w'=>e=.returned (.string ⟨(s.data.toList.dropWhile digitB).toArray⟩)/\Below w.heap.size w w':=by
 refine (Any.strings_TrimLeft_laid Tryz.lays161 (by kernel_rfl) s ⟨#[48,49,50,51,52,53,54,55,56,57]⟩ w (by decide) (ascii_of_all (by decide))).mono ?_
 rintro e w' ⟨rfl,h2⟩
 refine ⟨?_,h2⟩
 show Ending.returned (.string ⟨(s.data.toList.dropWhile (tenB.contains ·)).toArray⟩)=_
 rw [show (fun c=>tenB.contains c)=digitB from funext ten_eq]
theorem below_bytes (w:World) (t:TypeId) (s:ByteArray):Below w.heap.size w (Lib.bytesWorld w t s) :=
 ⟨by unfold Lib.bytesWorld World.freeze;split<;>rfl,by unfold Lib.bytesWorld World.freeze;split<;>rfl,by unfold Lib.bytesWorld World.freeze;split<;>rfl,by rw [Lib.bytesWorld_size];omega,fun k hk=>Lib.bytesWorld_at_old _ _ _ _ hk⟩
theorem digits_walk {R:Nat} (D:ByteArray) (w:World) (hsz:D.size<=17000) (h0:D.data.toList≠[]) (hd:D.data.toList.all digitB=true) (hv:GW R w) :
  Calls Tryz.prog 114 #[.string D,.int .i64 10,.int .i64 64] w fun e w'=>Below w.heap.size w w'/\∃v er,e=.returned (.tuple #[.int .i64 v,er])/\(spell 0 D.data.toList<=9223372036854775807->v=(spell 0 D.data.toList:Int)/\er=.nilIface)/\(¬spell 0 D.data.toList<=9223372036854775807->∃t p,er=.iface t p):=by
 have hp:=parseInt_digits h0 hd
 by_cases hle:spell 0 D.data.toList<=9223372036854775807
 ·rw [if_pos hle] at hp
  refine (Tryz.strconv_ParseInt_10_at64_ok D (by omega) _ hp w).mono ?_
  rintro e w' ⟨rfl,h2⟩
  refine ⟨?_,_,_,rfl,fun _=>⟨rfl,rfl⟩,fun h=>absurd hle h⟩
  rcases h2 with rfl | ⟨t,rfl⟩
  ·exact Below.refl _ _
  exact below_bytes _ _ _
 rw [if_neg hle] at hp
 obtain ⟨⟨te,pe,hc⟩,-⟩:=hv
 refine (Tryz.strconv_ParseInt_10_at64_range D (by omega) hp _ w hc (.inr ⟨te,pe,rfl⟩)).mono ?_
 rintro e w' ⟨N,rfl,-,-,h2⟩
 exact ⟨h2,_,_,rfl,fun h=>absurd h hle,fun _=>⟨_,_,rfl⟩⟩
theorem trim_size (l:List UInt8):((⟨(l.dropWhile digitB).toArray⟩:ByteArray).size:Int)=(l.length:Int)-((l.takeWhile digitB).length:Int):=by
 have h:l.takeWhile digitB++l.dropWhile digitB=l:=List.takeWhile_append_dropWhile
 have h2:=congrArg List.length h
 rw [List.length_append] at h2
 show ((l.dropWhile digitB).toArray.size:Int)=_
 rw [List.size_toArray]
 omega
theorem tw_lt {p:UInt8->Bool}:∀(l:List UInt8) (j:Nat) (_:j<(l.takeWhile p).length) (h2:j<l.length),p l[j]=true
 | [],_,h,_=>by simp at h
 | c :: r,j,h,h2=>by
  rw [List.takeWhile_cons] at h
  by_cases hc:p c=true
  ·rw [if_pos hc] at h
   cases j with
   | zero=>exact hc
   | succ j=>exact tw_lt r j (by simpa using h) (by simpa using h2)
  rw [if_neg hc] at h;simp at h
theorem tw_at {p:UInt8->Bool}:∀(l:List UInt8) (h2:(l.takeWhile p).length<l.length),p l[(l.takeWhile p).length]=false
 | [],h2=>by simp at h2
 | c :: r,h2=>by
  by_cases hc:p c=true
  ·have e:(c :: r).takeWhile p=c :: r.takeWhile p:=by rw [List.takeWhile_cons,if_pos hc]
   have h3:(r.takeWhile p).length<r.length:=by rw [e] at h2;simpa using h2
   have:=tw_at r h3
   simp only [e,List.length_cons,gE1]
   exact this
  have e:(c :: r).takeWhile p=[]:=by rw [List.takeWhile_cons,if_neg hc]
  simp only [e,List.length_nil,gE0]
  simpa using hc
theorem step_walk (R:Nat) (s:ByteArray) (st:GSt) (w:World) (hs:s.size<=17000) (hi:st.i<=s.size) (h:RdIs R w s st) (hv:GW R w) :
  Calls Tryz.prog 79 #[.pointer (some ⟨R,0,none⟩)] w (StepEnd R s (stepB s st.i) w):=by
 have HR0:=hid h
 have HV0:=hid hv
 obtain ⟨X,hX⟩:∃X,stepB s st.i=X:=⟨_,rfl⟩
 have HST:=hid hX
 rw [hX]
 clear h hv hX
 go_enter Tryz.func79,Tryz.ntmps79
 go_upto_block 0 with fail
 go_cut [8] from 9 to 36 (fun _ wx=>Hid (RdIs R wx s ⟨fromB s st.i,st.pos,st.now⟩)/\Hid (KeepR R w wx))
 case first =>
  go_wp2_with fail
  go_loopw [8] (fun _ wr=>∃j:Nat,st.i<=j/\j<=s.size/\Hid (fromB s j=fromB s st.i)/\Hid (RdIs R wr s ⟨j,st.pos,st.now⟩)/\Hid (KeepR R w wr)) (fun _ wr=>s.size-atI R wr)
  case atStart=>exact ⟨st.i,Nat.le_refl _,hi,rfl,HR0,KeepR.refl _ _⟩
  obtain ⟨j,hij,hj,hf,hX,hK⟩:=hrel
  obtain ⟨x0,x1,-,-⟩:=rd_cells hX.out
  have f1:=rd_frozen hX.out 1
  simp only at x1
  by_cases hlt:j<s.size
  ·have i1:(j:Int)<(s.size:Int):=by omega
   have i2:(0:Int)<=(j:Int):=by omega
   by_cases h32:s[j]=32
   ·have HF:Hid (fromB s (j+1)=fromB s st.i):=by show _=_;rw [fromB_next hlt h32];exact hf.out
    have g:(((s[j]'hlt).toNat:Int)==32)=true:=by rw [h32];rfl
    have wr1:IntKind.i64.wrap ((j:Int)+1)=(j:Int)+1:=wrap_i64 (by omega) (by omega)
    clear h32 hf
    go_wp2
    go_quiet (fail)
    go_wp2
    have h2:RdIs R ((wr.drewN nq).setCell ⟨R,1,none⟩ (.int .i64 ((j:Int)+1))) s ⟨j+1,st.pos,st.now⟩:=rd_set (st:=⟨j,st.pos,st.now⟩) (i:=j+1) (rd_drewN hX.out nq)
    refine ⟨⟨j+1,by omega,by omega,HF,h2,(hK.out.drewN nq).setCell _⟩,?_⟩
    rw [atI_eq h2,atI_eq hX.out]
    show s.size-(j+1)<s.size-j
    omega
   have hfj:=fromB_stop hlt h32
   have hff:=hf.out
   have g:(((s[j]'hlt).toNat:Int)==32)=false:=by
    rw [beq_eq_false_iff_ne]
    intro hc
    exact h32 (UInt8.toNat_inj.1 (by have:(32:UInt8).toNat=32:=rfl;omega))
   clear h32 hf
   go_wp2
   go_quiet (fail)
   go_wp2
   go_meet
   rw [<-hff,hfj]
   exact ⟨rd_drewN hX.out nq,hK.out.drewN nq⟩
  have hje:j=s.size:=by omega
  subst hje
  have hff:=hf.out
  rw [fromB_end] at hff
  have i1:¬(s.size:Int)<(s.size:Int):=by omega
  clear hf
  go_wp2
  go_quiet (fail)
  go_wp2
  go_meet
  rw [<-hff]
  exact ⟨rd_drewN hX.out nq,hK.out.drewN nq⟩
 obtain ⟨hX,hK⟩:=hcut
 have hge:st.i<=fromB s st.i:=fromB_ge s st.i
 have hle:fromB s st.i<=s.size:=fromB_le s hi
 have hst:=HST.out
 rw [stepB] at hst
 clear HST
 generalize fromB s st.i=f at *
 obtain ⟨x0,x1,x2,x3⟩:=rd_cells hX.out
 have f1:=rd_frozen hX.out 1
 have f2:=rd_frozen hX.out 2
 have f3:=rd_frozen hX.out 3
 simp only at x1 x2 x3
 by_cases hfe:f=s.size
 ·rw [if_pos hfe] at hst
  have g:((f:Int)==(s.size:Int))=true:=by rw [hfe];simp
  have HX:=hid hst
  clear hst
  go_wp2_with fail
  go_end0
  rw [<-HX.out,hfe]
  exact ⟨(hK.out.setCell _).setCell _,rfl,hfe▸rd_set2 hX.out⟩
 rw [if_neg hfe] at hst
 have g:((f:Int)==(s.size:Int))=false:=by rw [beq_eq_false_iff_ne];omega
 have HX:=hid hst
 clear hst
 have i1:(0:Int)<=(f:Int):=by omega
 have i2:(f:Int)<=(s.size:Int):=by omega
 go_upto_region 6 with fail
 have hfl:f<s.size:=by omega
 have hTn:(s.extract f s.size).size=s.size-f:=by rw [ByteArray.size_extract];omega
 have hTl:(s.extract f s.size).data.toList=s.data.toList.drop f:=by
  rw [ByteArray.data_extract,Array.toList_extract]
  show (s.data.toList.drop f).take (s.size-f)=_
  rw [List.take_of_length_le (by rw [List.length_drop,ba_len];exact Nat.le_refl _)]
 generalize s.extract f s.size=T at *
 have hTf:f+T.size=s.size:=by omega
 clear hTn
 have i0:(0:Int)<(T.size:Int):=by omega
 go_upto_block 2 with fail
 obtain ⟨c,r,hL,hc⟩:∃c r,T.data.toList=c :: r/\T[0]'(by omega)=c:=by
  refine ⟨T[0]'(by omega),T.data.toList.drop 1,?_,rfl⟩
  rw [<-List.drop_zero (l:=T.data.toList),List.drop_eq_getElem_cons (by rw [ba_len];omega)];rfl
 rw [<-hTl] at HX
 obtain ⟨m,hm⟩:∃m,longB T.data.toList=m:=⟨_,rfl⟩
 rw [hm] at HX
 rw [hL] at hm
 rw [hc]
 have hrl:r.length+1=T.size:=by rw [<-ba_len,hL];rfl
 clear hc
 go_cut [4] (fun t wx=>t=.int .i64 (m:Int)/\m≠0/\Hid (Below wc.heap.size wc wx))
 case first =>
  have hsg:=sign_idx c
  by_cases hs1:signsB.contains c=true
  ·rw [hs1,decide_eq_true_eq] at hsg
   have d0:0<=Lib.indexByte [61,60,43,45,42,40,41,48] c:=hsg
   have hm1:m=1:=by rw [<-hm,longB,if_pos hs1]
   clear hsg hs1
   go_wp2_with (go_at_call 112;refine (Tryz.strings_IndexByte _ _ _).mono ?_;rintro e w2 ⟨rfl,rfl⟩)
   go_meet
   exact ⟨by rw [hm1];rfl,by omega,Below.refl _ _⟩
  rw [Bool.not_eq_true] at hs1
  rw [hs1,decide_eq_false_iff_not] at hsg
  have d0:¬0<=Lib.indexByte [61,60,43,45,42,40,41,48] c:=hsg
  have hs2:¬signsB.contains c=true:=by rw [hs1];decide
  rw [longB,if_neg hs2] at hm
  clear hsg hs1 hs2
  by_cases hd1:49<=c.toNat/\c.toNat<=57
  ·rw [if_pos hd1] at hm
   have d1:49<=(c.toNat:Int):=by omega
   have d2:(c.toNat:Int)<=57:=by omega
   clear hd1
   have hcd:digitB c=true:=by simp only [digitB,decide_eq_true_eq];omega
   have hk1:T.data.toList.takeWhile digitB=c :: r.takeWhile digitB:=by rw [hL,List.takeWhile_cons,if_pos hcd]
   obtain ⟨k,hk⟩:∃k,(r.takeWhile digitB).length+1=k:=⟨_,rfl⟩
   have hV:=trim_size T.data.toList
   rw [hk1,List.length_cons,hk,ba_len] at hV
   obtain ⟨V,hVe⟩:∃V:ByteArray,(⟨(T.data.toList.dropWhile digitB).toArray⟩:ByteArray)=V:=⟨_,rfl⟩
   have HT:=fun (W:World)=>trim_walk T W
   rw [hVe] at HT hV
   have hkT:k<=T.size:=by have:=takeWhile_le (p:=digitB) r;omega
   have hDl:(T.extract 0 k).data.toList=c :: r.takeWhile digitB:=by
    rw [ByteArray.data_extract,Array.toList_extract]
    show (T.data.toList.drop 0).take (k-0)=_
    rw [List.drop_zero,Nat.sub_zero,<-hk1,<-take_takeWhile,hk1,List.length_cons,hk]
   have wr1:IntKind.i64.wrap ((T.size:Int)-(V.size:Int))=(k:Int):=by rw [wrap_i64 (by omega) (by omega)];omega
   have hP:=fun (W:World) (hv:GW R W)=>digits_walk (R:=R) (T.extract 0 k) W (by rw [ByteArray.size_extract];omega) (by rw [hDl];simp) (by
    rw [hDl,<-hk1];exact List.all_takeWhile) hv
   rw [hDl] at hP
   have HTH:=hid HT
   have HPH:=hid hP
   have i3:(0:Int)<=(k:Int):=by omega
   have i4:(k:Int)<=(T.size:Int):=by omega
   have k0:0<k:=by omega
   clear HT hP hVe hk1 hcd hV hDl
   go_upto_region 12 with (first | fail | (go_at_call 112;refine (Tryz.strings_IndexByte _ _ _).mono ?_;rintro e w2 ⟨rfl,rfl⟩))
   go_upto_region 13 with (go_at_call 113;refine (HTH.out _).mono ?_;rintro e w3 ⟨rfl,hb3⟩)
   have HB3:=hid hb3
   have hv3:=HV0.out.keep (hK.out.next hb3)
   clear hb3
   by_cases hsp:spell 0 (c :: r.takeWhile digitB)<=9223372036854775807
   ·have hP:Calls Tryz.prog 114 #[.string (T.extract 0 k),.int .i64 10,.int .i64 64] w3 fun e w'=>Below w3.heap.size w3 w'/\∃v,e=.returned (.tuple #[.int .i64 v,.nilIface]):=by
     refine (HPH.out w3 hv3).mono ?_
     rintro e w' ⟨h1,v,er,rfl,h2,-⟩
     exact ⟨h1,v,by rw [(h2 hsp).2]⟩
    rw [if_pos hsp] at hm
    have hkm:m=k:=by omega
    have HP:=hid hP
    clear hv3 HPH hsp hm hP
    go_wp2_with fail
    refine HP.out.mono ?_
    rintro e w4 ⟨hb4,v,rfl⟩
    have HB4:=hid (HB3.out.trans (hb4.mono HB3.out.size))
    clear HP HB3 hb4
    go_wp2_with fail
    go_meet
    exact ⟨by rw [hkm],by omega,HB4.out⟩
   have hP:Calls Tryz.prog 114 #[.string (T.extract 0 k),.int .i64 10,.int .i64 64] w3 fun e w'=>Below w3.heap.size w3 w'/\∃v t p,e=.returned (.tuple #[.int .i64 v,.iface t p]):=by
    refine (HPH.out w3 hv3).mono ?_
    rintro e w' ⟨h1,v,er,rfl,-,h2⟩
    obtain ⟨t,p,rfl⟩:=h2 hsp
    exact ⟨h1,v,t,p,rfl⟩
   rw [if_neg hsp] at hm
   have HM:=hid hm.symm
   have HP:=hid hP
   clear hv3 HPH hsp hP hm
   go_wp2_with fail
   refine HP.out.mono ?_
   rintro e w4 ⟨hb4,v,t,p,rfl⟩
   have HB4:=hid (HB3.out.trans (hb4.mono HB3.out.size))
   clear HP HB3 hb4
   go_wp2_with fail
   refine ⟨rfl,?_⟩
   rw [<-HX.out,if_pos HM.out]
   exact ⟨hK.out.next HB4.out,rfl⟩
  rw [if_neg hd1] at hm
  by_cases hq:c=39
  ·rw [if_pos hq] at hm
   have d39:((c.toNat:Int)==39)=true:=by rw [hq];rfl
   have d1:¬49<=(c.toNat:Int):=by rw [hq];decide
   clear hd1 hq
   have hTr:(T.extract 1 T.size).data.toList=r:=by
    rw [ByteArray.data_extract,Array.toList_extract]
    show (T.data.toList.drop 1).take (T.size-1)=_
    rw [hL]
    show r.take (T.size-1)=r
    rw [List.take_of_length_le (by omega)]
   have hix:=idx_quote r
   obtain ⟨k,hk⟩:∃k,(r.takeWhile (· != 39)).length=k:=⟨_,rfl⟩
   have hkr:=takeWhile_le (p:=(· != 39)) r
   have hTq:(T.extract 1 (k+1)).data.toList=r.takeWhile (· != 39):=by
    rw [ByteArray.data_extract,Array.toList_extract]
    show (T.data.toList.drop 1).take (k+1-1)=_
    rw [hL,Nat.add_sub_cancel]
    show r.take k=_
    rw [<-hk,take_takeWhile]
   rw [hk] at hix hm hkr
   have HI:=hid (fun (W:World)=>by have:=Tryz.strings_IndexByte (T.extract 1 T.size) 39 W;rw [hTr] at this;exact this)
   have HQ:=hid (fun (W:World)=>by have:=quoted_walk (T.extract 1 (k+1)) W;rw [hTq] at this;exact this)
   go_upto_region 17 with (go_at_call 112;refine (Tryz.strings_IndexByte _ _ _).mono ?_;rintro e w2 ⟨rfl,rfl⟩)
   clear hTr hTq
   by_cases hkl:k<r.length
   ·rw [if_pos hkl] at hix
    have hix2:Lib.indexByte r (39:Int).toNat.toUInt8=(k:Int):=hix
    rw [hix2] at HI
    have i3:(1:Int)<=(T.size:Int):=by omega
    have wr1:IntKind.i64.wrap ((k:Int)+2)=(k:Int)+2:=wrap_i64 (by omega) (by omega)
    have wr2:IntKind.i64.wrap ((k:Int)+2-1)=((k+1:Nat):Int):=by rw [wrap_i64 (by omega) (by omega)];omega
    have i4:¬((k:Int)+2<2):=by omega
    have i5:((k+1:Nat):Int)<=(T.size:Int):=by omega
    have i6:(1:Int)<=((k+1:Nat):Int):=by omega
    obtain ⟨b,hb⟩:∃b,(r.takeWhile (· != 39)).all quotB=b:=⟨_,rfl⟩
    rw [hb] at HQ hm
    cases b
    ·rw [if_neg (by simp)] at hm
     have HM:=hid hm.symm
     clear hm hix hix2 hb hk
     go_wp2_with fail
     refine (HI.out _).mono ?_
     rintro e w3 ⟨rfl,rfl⟩
     go_upto_region 18 with fail
     go_wp2_with fail
     refine (HQ.out _).mono ?_
     rintro e w4 ⟨rfl,hb4⟩
     have HB4:=hid hb4
     clear hb4 HQ HI
     go_wp2_with fail
     refine ⟨rfl,?_⟩
     rw [<-HX.out,if_pos HM.out]
     exact ⟨hK.out.next HB4.out,rfl⟩
    rw [if_pos ⟨hkl,rfl⟩] at hm
    clear hix hix2 hb hk
    go_wp2_with fail
    refine (HI.out _).mono ?_
    rintro e w3 ⟨rfl,rfl⟩
    go_upto_region 18 with fail
    go_wp2_with fail
    refine (HQ.out _).mono ?_
    rintro e w4 ⟨rfl,hb4⟩
    have HB4:=hid hb4
    clear hb4 HQ HI
    go_wp2_with fail
    go_meet
    exact ⟨by rw [<-hm];rfl,by omega,HB4.out⟩
   rw [if_neg hkl] at hix
   have hix2:Lib.indexByte r (39:Int).toNat.toUInt8 = -1:=hix
   rw [hix2] at HI
   rw [if_neg (fun h=>hkl h.1)] at hm
   have HM:=hid hm.symm
   have i3:(1:Int)<=(T.size:Int):=by omega
   clear hix hix2 hk hm HQ
   go_wp2_with fail
   refine (HI.out _).mono ?_
   rintro e w3 ⟨rfl,rfl⟩
   go_wp2_with fail
   refine ⟨rfl,?_⟩
   rw [<-HX.out,if_pos HM.out]
   exact ⟨hK.out,rfl⟩
  rw [if_neg hq] at hm
  have hq2:¬(c.toNat:Int)=39:=by
   intro h
   exact hq (UInt8.toNat_inj.1 (by have:(39:UInt8).toNat=39:=rfl;omega))
  have d39:((c.toNat:Int)==39)=false:=by rw [beq_eq_false_iff_ne];exact hq2
  by_cases hlet:97<=c.toNat/\c.toNat<=122
  ·rw [if_pos hlet] at hm
   have d1:49<=(c.toNat:Int):=by omega
   have d2:¬(c.toNat:Int)<=57:=by omega
   have d3:97<=(c.toNat:Int):=by omega
   have d4:(c.toNat:Int)<=122:=by omega
   have hcl:letterB c=true:=by
    simp only [letterB,Bool.or_eq_true,decide_eq_true_eq]
    exact .inl (.inl (.inl (.inl hlet)))
   have hk1:T.data.toList.takeWhile letterB=c :: r.takeWhile letterB:=by rw [hL,List.takeWhile_cons,if_pos hcl]
   obtain ⟨k,hk⟩:∃k,(r.takeWhile letterB).length+1=k:=⟨_,rfl⟩
   have hk2:(T.data.toList.takeWhile letterB).length=k:=by rw [hk1,List.length_cons,hk]
   have hkT:k<=T.size:=by have:=takeWhile_le (p:=letterB) r;omega
   have hk0:0<k:=by omega
   have HLT:Hid (∀(j:Nat) (h:j<k) (h2:j<T.size),letterB (T[j]'h2)=true):=fun j h h2=>tw_lt (p:=letterB) T.data.toList j (by omega) (by rw [ba_len];exact h2)
   have HLE:Hid (∀(h2:k<T.size),letterB (T[k]'h2)=false):=fun h2=>by
    have:=tw_at (p:=letterB) T.data.toList (by rw [hk2,ba_len];exact h2)
    simp only [hk2] at this
    exact this
   rw [hk] at hm
   have HM:=hid hm
   clear hd1 hq hq2 hlet hcl hk1 hk2 hk hm
   go_upto_block 3 with (go_at_call 112;refine (Tryz.strings_IndexByte _ _ _).mono ?_;rintro e w2 ⟨rfl,rfl⟩)
   go_wp2_with fail
   have W0:=hid (Below.refl w2.heap.size w2)
   go_loopw [4] (fun t wr=>∃j:Nat,j<=k/\t=.int .i64 (j:Int)/\wr=w2) (fun t _=>k-(intOf t).toNat)
   case atStart=>exact ⟨0,Nat.zero_le _,rfl,rfl⟩
   obtain ⟨j,hj,rfl,rfl⟩:=hrel
   have j0:(0:Int)<=(j:Int):=by omega
   by_cases hjk:j<k
   ·have hjT:j<T.size:=by omega
    have jT:(j:Int)<(T.size:Int):=by omega
    have wr1:IntKind.i64.wrap ((j:Int)+1)=(j:Int)+1:=wrap_i64 (by omega) (by omega)
    have HL:=hid (fun W=>by have:=letter_walk (T[j]'hjT) W;rw [HLT.out j hjk hjT] at this;exact this)
    clear HLT HLE
    go_wp2_with fail
    refine (HL.out _).mono ?_
    rintro e w5 ⟨rfl,rfl⟩
    go_wp2_with fail
    refine ⟨⟨j+1,by omega,by first | rfl | trivial,trivial⟩,?_⟩
    simp only [intOf]
    omega
   have hje:j=k:=by omega
   subst hje
   by_cases hjT:j<T.size
   ·have jT:(j:Int)<(T.size:Int):=by omega
    have HL:=hid (fun W=>by have:=letter_walk (T[j]'hjT) W;rw [HLE.out hjT] at this;exact this)
    clear HLT HLE hjk
    by_cases h32:j<=32
    ·have hmj:=HM.out
     rw [if_pos h32] at hmj
     have HMK:=hid hmj.symm
     have d5:¬(32:Int)<(j:Int):=by omega
     clear hmj h32
     go_wp2_with fail
     refine (HL.out _).mono ?_
     rintro e w5 ⟨rfl,rfl⟩
     go_wp2_with fail
     go_meet
     exact ⟨by rw [HMK.out],by have:=HMK.out;omega,W0.out⟩
    have hmj:=HM.out
    rw [if_neg h32] at hmj
    have HMK:=hid hmj.symm
    have d5:(32:Int)<(j:Int):=by omega
    clear hmj h32
    go_wp2_with fail
    refine (HL.out _).mono ?_
    rintro e w5 ⟨rfl,rfl⟩
    go_wp2_with fail
    refine ⟨rfl,?_⟩
    rw [<-HX.out,if_pos HMK.out]
    exact ⟨hK.out,rfl⟩
   have jT:¬(j:Int)<(T.size:Int):=by omega
   clear HLT HLE hjk
   by_cases h32:j<=32
   ·have hmj:=HM.out
    rw [if_pos h32] at hmj
    have HMK:=hid hmj.symm
    have d5:¬(32:Int)<(j:Int):=by omega
    clear hmj h32
    go_wp2_with fail
    go_meet
    exact ⟨by rw [HMK.out],by have:=HMK.out;omega,W0.out⟩
   have hmj:=HM.out
   rw [if_neg h32] at hmj
   have HMK:=hid hmj.symm
   have d5:(32:Int)<(j:Int):=by omega
   clear hmj h32
   go_wp2_with fail
   refine ⟨rfl,?_⟩
   rw [<-HX.out,if_pos HMK.out]
   exact ⟨hK.out,rfl⟩
  rw [if_neg hlet] at hm
  have HM:=hid hm.symm
  clear hm
  rcases (by omega:c.toNat<49\/(57<c.toNat/\c.toNat<97)\/122<c.toNat) with h1 | h1 | h1
  ·have d1:¬49<=(c.toNat:Int):=by omega
   have d2:¬97<=(c.toNat:Int):=by omega
   clear hd1 hq hq2 hlet h1
   go_wp2_with (go_at_call 112;refine (Tryz.strings_IndexByte _ _ _).mono ?_;rintro e w2 ⟨rfl,rfl⟩)
   refine ⟨rfl,?_⟩
   rw [<-HX.out,if_pos HM.out]
   exact ⟨hK.out,rfl⟩
  ·have d1:49<=(c.toNat:Int):=by omega
   have d3:¬(c.toNat:Int)<=57:=by omega
   have d2:¬97<=(c.toNat:Int):=by omega
   clear hd1 hq hq2 hlet h1
   go_wp2_with (go_at_call 112;refine (Tryz.strings_IndexByte _ _ _).mono ?_;rintro e w2 ⟨rfl,rfl⟩)
   refine ⟨rfl,?_⟩
   rw [<-HX.out,if_pos HM.out]
   exact ⟨hK.out,rfl⟩
  have d1:49<=(c.toNat:Int):=by omega
  have d3:¬(c.toNat:Int)<=57:=by omega
  have d2:97<=(c.toNat:Int):=by omega
  have d4:¬(c.toNat:Int)<=122:=by omega
  clear hd1 hq hq2 hlet h1
  go_wp2_with (go_at_call 112;refine (Tryz.strings_IndexByte _ _ _).mono ?_;rintro e w2 ⟨rfl,rfl⟩)
  refine ⟨rfl,?_⟩
  rw [<-HX.out,if_pos HM.out]
  exact ⟨hK.out,rfl⟩
 rename_i wb _
 obtain ⟨rfl,hm0,hBc⟩:=hcut
 rw [if_neg hm0] at HX
 have hX2:RdIs R wc s ⟨f,st.pos,st.now⟩:=⟨(hBc.out.block R (Arr.lt hX.out)).trans hX.out.heap⟩
 have HK2:=hid (hK.out.next hBc.out)
 have HX2:=hid hX2
 clear hK hX hBc f1 f2 f3 x0 x1 x2 x3
 obtain ⟨x0,x1,x2,x3⟩:=rd_cells hX2
 have f1:=rd_frozen hX2 1
 have f2:=rd_frozen hX2 2
 have f3:=rd_frozen hX2 3
 have hmT:m<=T.size:=by have:=longB_le (c :: r);rw [hm,List.length_cons] at this;omega
 have i3:(0:Int)<=(m:Int):=by omega
 have i4:(m:Int)<=(T.size:Int):=by omega
 simp only at x1 x2 x3
 have wr1:IntKind.i64.wrap ((f:Int)+(m:Int))=(f:Int)+(m:Int):=wrap_i64 (by omega) (by omega)
 have hEx:T.extract 0 m=s.extract f (f+m):=by
  apply ByteArray.ext
  apply Array.ext'
  rw [ByteArray.data_extract,Array.toList_extract,ByteArray.data_extract,Array.toList_extract]
  show (T.data.toList.drop 0).take (m-0)=(s.data.toList.drop f).take (f+m-f)
  rw [hTl,List.drop_zero,Nat.sub_zero,Nat.add_sub_cancel_left]
 have HEx:=hid hEx
 clear hX2 hEx hm hL hrl hTl
 go_wp2_with fail
 go_end0
 rw [<-HX.out,HEx.out]
 exact ⟨((HK2.out.setCell _).setCell _).setCell _,rfl,rd_set2 (rd_set (i:=f+m) HX2.out)⟩
end Go.Proofs.YtfbbkmdhnkmonaaGreatDoor
