/- Proved, each under the conditions that it names: What is read as a guard may be, and is not much longer written; plain; An order of places, as far as it comes: plain words; What a model is judged by, in plain words; package guard: what a node is. -/
import Derived.Test.YtfbbkmdhnkmonaaGreatDoorT05
import Derived.Lib.SliceRun
import Derived.Test.YtfbbkmdhnkmonaaGreatDoorChecked
set_option maxRecDepth 100000
set_option maxHeartbeats 32000000
namespace Go.Proofs.YtfbbkmdhnkmonaaGreatDoor
open Go.RowKit
structure GSz (s:ByteArray) (st:GSt):Prop where
 le:st.i<=s.size
 eq:st.i=st.pos+st.now.size
 tok:TokOk st.now
theorem step_gz {s:ByteArray} {i:Nat} {st:GSt} (hi:i<=s.size) (h:stepB s i=.ok st):GSz s st/\i<=st.pos:=by
 obtain ⟨hg,hp⟩:=step_gs hi h
 refine ⟨⟨hg.le,?_,hg.tok⟩,hp⟩
 obtain ⟨_,_,h3,_,h5⟩:=stepB_ok hi h
 rcases h5 with h5 | h5
 ·unfold stepB at h
  split at h
  ·injection h with h;subst h;rfl
  split at h
  ·cases h
  rename_i h0 h1
  injection h with h;subst h
  simp only [ByteArray.size_extract] at h5
  have h3:=longB_le (s.data.toList.drop (fromB s i))
  rw [List.length_drop,ba_len] at h3
  omega
 omega
theorem step_err {s:ByteArray} {i a:Nat} (hi:i<=s.size) (h:stepB s i=.error a):a<=s.size:=by
 have:=fromB_le s hi
 unfold stepB at h
 split at h
 ·cases h
 split at h
 ·injection h with h;omega
 cases h
def MR (s:ByteArray) (p0:Nat):Except Nat (GT×GSt)->Prop
 | .ok (g,st1)=>GSz s st1/\g.may/\g.kid.length+5*p0<=5*st1.pos/\g.toGD.size+3*p0<=3*st1.pos
 | .error a=>a<=s.size
def MP (s:ByteArray) (p:GSt->PR):Prop:=∀st x,GSz s st->p st=some x->MR s st.pos x
def KindsOk (kinds:ByteArray->Option Nat):Prop:=∀x k,kinds x=some k->(9<=k/\k<=15)/\x.data.toList=opT k
theorem opT_pos (k:Nat):1<=(opT k).length:=by unfold opT;split<;>simp
theorem kinds_ok:KindsOk kOr/\KindsOk kAnd/\KindsOk kRel/\KindsOk kSum/\KindsOk kMul:=by
 refine ⟨fun x k h=>?_,fun x k h=>?_,fun x k h=>?_,fun x k h=>?_,fun x k h=>?_⟩
 ·unfold kOr at h;split at h
  ·rename_i hx;subst hx;injection h with h;subst h;exact ⟨by omega,rfl⟩
  cases h
 ·unfold kAnd at h;split at h
  ·rename_i hx;subst hx;injection h with h;subst h;exact ⟨by omega,rfl⟩
  cases h
 ·unfold kRel at h;split at h
  ·rename_i hx;subst hx;injection h with h;subst h;exact ⟨by omega,rfl⟩
  split at h
  ·rename_i hx;subst hx;injection h with h;subst h;exact ⟨by omega,rfl⟩
  cases h
 ·unfold kSum at h;split at h
  ·rename_i hx;subst hx;injection h with h;subst h;exact ⟨by omega,rfl⟩
  split at h
  ·rename_i hx;subst hx;injection h with h;subst h;exact ⟨by omega,rfl⟩
  cases h
 unfold kMul at h;split at h
 ·rename_i hx;subst hx;injection h with h;subst h;exact ⟨by omega,rfl⟩
 cases h
theorem two_kid (k:Nat) (g h:GT):(GT.two k g h).kid.length=g.kid.length+h.kid.length+(opT k).length+4:=by
 show (wrapT false _).length=_
 simp [wrapT,GT.txt]
 omega
theorem one_kid (k:Nat) (g:GT):(GT.one k g).kid.length=g.kid.length+6:=by
 show (wrapT false _).length=_
 simp [wrapT,GT.txt]
theorem join_mr {s:ByteArray} {p0 k:Nat} {g h:GT} {st st1 st2:GSt} (hk:9<=k/\k<=15) (hn:st.now.data.toList=opT k) (hz:GSz s st) (hg:g.may) (h1:g.kid.length+5*p0<=5*st.pos) (h2:g.toGD.size+3*p0<=3*st.pos) (hs:st.i<=st1.pos) (hm:MR s st1.pos (.ok (h,st2))):MR s p0 (.ok (.two k g h,st2)):=by
 obtain ⟨q1,q2,q3,q4⟩:=hm
 have hl:st.now.size=(opT k).length:=by rw [<-ba_len,hn]
 have ho:=opT_pos k
 have he:=hz.eq
 refine ⟨q1,⟨hk,hg,q2⟩,?_,?_⟩
 ·rw [two_kid];omega
 simp only [GT.toGD,GD.size,GD.sizes]
 show 1+0+_+_<=_
 omega
theorem rowL_mr {s:ByteArray} {one:GSt->PR} (hone:MP s one) {kinds:ByteArray->Option Nat} (hk:KindsOk kinds) (p0:Nat):∀(f:Nat) (g:GT) (st:GSt) (x:Except Nat (GT×GSt)),MR s p0 (.ok (g,st))->rowL s one kinds f g st=some x->MR s p0 x
 | 0,_,_,_,_,h=>by cases h
 | f+1,g,st,x,hm,h=>by
  rw [rowL] at h
  cases hkd:kinds st.now with
  | none=>rw [hkd] at h;injection h with h;subst h;exact hm
  | some k =>
   rw [hkd] at h
   simp only at h
   obtain ⟨q1,q2,q3,q4⟩:=hm
   cases hs:stepB s st.i with
   | error a=>rw [hs] at h;injection h with h;subst h;exact step_err q1.le hs
   | ok st1 =>
    rw [hs] at h
    simp only at h
    obtain ⟨g1,p1⟩:=step_gz q1.le hs
    cases ho:one st1 with
    | none=>rw [ho] at h;cases h
    | some y =>
     have hy:=hone _ _ g1 ho
     rw [ho] at h
     cases y with
     | error a=>simp only at h;injection h with h;subst h;exact hy
     | ok z =>
      obtain ⟨h2,st2⟩:=z
      obtain ⟨k1,k2⟩:=hk _ _ hkd
      exact rowL_mr hone hk p0 f _ _ _ (join_mr k1 k2 q1 q2 q3 q4 p1 hy) h
theorem thenP_mr {s:ByteArray} {r:PR} {k:GT->GSt->PR} {p0:Nat} {x:Except Nat (GT×GSt)} (h:thenP r k=some x) (hr:∀y,r=some y->MR s p0 y) (hk:∀g st,MR s p0 (.ok (g,st))->k g st=some x->MR s p0 x):MR s p0 x:=by
 rcases thenP_some h with ⟨a,h1,rfl⟩ | ⟨g,st,h1,h2⟩
 ·exact hr _ h1
 exact hk g st (hr _ h1) h2
theorem leaf_mr {s:ByteArray} {st:GSt} {x:Except Nat (GT×GSt)} {k:Nat} {n:Int} {t:ByteArray} (hz:GSz s st) (hm:(GT.leaf k n t).may) (hl:(leafT k n t).length<=5*st.now.size) (ht:1+t.size<=3*st.now.size) (h:thenS (stepB s st.i) (fun st1=>some (.ok (.leaf k n t,st1)))=some x):MR s st.pos x:=by
 cases hs:stepB s st.i with
 | error a=>rw [hs] at h;injection h with h;subst h;exact step_err hz.le hs
 | ok st1 =>
  rw [hs] at h
  injection h with h;subst h
  obtain ⟨g1,p1⟩:=step_gz hz.le hs
  have he:=hz.eq
  refine ⟨g1,hm,?_,?_⟩
  ·show (leafT k n t).length+_<=_
   omega
  simp only [GT.toGD,GD.size,GD.sizes]
  omega
theorem dec_len {l:List UInt8} (hne:l≠[]) (hd:l.all digitB=true):(Lib.decDigits (spell 0 l)).length<=l.length:=by
 have h1:=spell_ltG l 0 hd
 have hpos:0<l.length:=List.length_pos_iff.2 hne
 obtain ⟨m,hm⟩:∃m,l.length=m+1:=⟨l.length-1,by omega⟩
 rw [Lib.decDigits_length,hm]
 rw [hm] at h1
 exact nd_le m _ (by omega)
theorem tok_quoted {now:ByteArray} (h:TokOk now) (h0:0<now.size) (hd:now.data.toList.headD 0=39):2<=now.size/\((now.extract 1 (now.size-1)).data.toList).all quotB=true/\(now.extract 1 (now.size-1)).size+2=now.size:=by
 have h2:=tok_quote h h0 hd
 refine ⟨h2,?_,by rw [ByteArray.size_extract];omega⟩
 rcases h with h | ⟨l,hl,hlo⟩
 ·omega
 match l,hl,hlo with
 | [],_,hlo=>exact absurd hlo (by decide)
 | c :: r,hl,hlo =>
  have hc:c=39:=by
   rw [hl] at hd
   obtain ⟨m,hm⟩:∃m,longB (c :: r)=m+1:=⟨longB (c :: r)-1,by omega⟩
   rw [hm] at hd
   exact hd
  subst hc
  have hlen:=congrArg List.length hl
  rw [ba_len,List.length_take] at hlen
  have hle:=longB_le (39 :: r)
  rw [longB,if_neg (by decide),if_neg (by decide),if_pos rfl] at hlo hlen hle hl
  split at hlo
  ·rename_i hx
   rw [if_pos hx] at hlen hl hle
   simp only [ByteArray.data_extract,Array.toList_extract]
   show ((now.data.toList.drop 1).take (now.size-1-1)).all quotB=true
   rw [hl]
   have ht:((39 :: r).take ((r.takeWhile (· != 39)).length+2)).drop 1=r.take ((r.takeWhile (· != 39)).length+1):=rfl
   rw [ht,List.take_take,show min (now.size-1-1) ((r.takeWhile (· != 39)).length+1)=(r.takeWhile (· != 39)).length by omega,take_takeWhile]
   exact hx.2
  omega
theorem name_mr {s:ByteArray} {st:GSt} {x:Except Nat (GT×GSt)} (hz:GSz s st) (h:thenS (if namedG st.now=true then stepB s st.i else .error st.pos) (fun st1=>some (.ok (.leaf 5 0 st.now,st1)))=some x):MR s st.pos x:=by
 by_cases hn:namedG st.now=true
 ·rw [if_pos hn] at h
  have h0:0<st.now.size:=by
   unfold namedG at hn
   simp only [Bool.and_eq_true,decide_eq_true_eq] at hn
   exact hn.1.1.1.1
  exact leaf_mr hz (.inr (.inr (.inr ⟨.inl rfl,rfl,hn⟩))) (by show st.now.data.toList.length<=_;rw [ba_len];omega) (by omega) h
 rw [if_neg hn] at h
 injection h with h;subst h
 have:=hz.eq;have:=hz.le
 show st.pos<=s.size
 omega
theorem thenS_mr {s:ByteArray} {r:Except Nat GSt} {k:GSt->PR} {p0:Nat} {x:Except Nat (GT×GSt)} (h:thenS r k=some x) (he:∀a,r=.error a->a<=s.size) (hk:∀st,r=.ok st->k st=some x->MR s p0 x):MR s p0 x:=by
 cases r with
 | error a=>injection h with h;subst h;exact he a rfl
 | ok st=>exact hk st rfl h
theorem need_gz {s x:ByteArray} {st st':GSt} (hz:GSz s st) (h:needB s x st=.ok st'):GSz s st'/\st.i<=st'.pos/\st.now=x:=by
 unfold needB at h
 split at h
 ·rename_i hx
  have:=step_gz hz.le h
  exact ⟨this.1,this.2,hx⟩
 cases h
theorem need_errB {s x:ByteArray} {st:GSt} {a:Nat} (hz:GSz s st) (h:needB s x st=.error a):a<=s.size:=by
 unfold needB at h
 split at h
 ·exact step_err hz.le h
 injection h with h;have:=hz.eq;have:=hz.le;omega
theorem open_mr {s:ByteArray} {st:GSt} {x:Except Nat (GT×GSt)} {k:Nat} (hk:(k=6/\st.now=openS)\/(k=7/\st.now=doneS)) (hz:GSz s st)
  (h:(thenS (stepB s st.i) fun st1=>thenS (needB s lparS st1) fun st2=>thenS (if namedG st2.now=true then stepB s st2.i else .error st2.pos) fun st3=>thenS (needB s rparS st3) fun st4=>some (.ok (.leaf k 0 st2.now,st4)))=some x):MR s st.pos x:=by
 have hns:st.now.size=4:=by rcases hk with ⟨_,h⟩ | ⟨_,h⟩<;>rw [h]<;>rfl
 refine thenS_mr h (fun a ha=>step_err hz.le ha) fun s1 e1 h=>?_
 obtain ⟨g1,p1⟩:=step_gz hz.le e1
 refine thenS_mr h (fun a ha=>need_errB g1 ha) fun s2 e2 h=>?_
 obtain ⟨g2,p2,n2⟩:=need_gz g1 e2
 have hl1:s1.now.size=1:=by rw [n2];rfl
 by_cases hn:namedG s2.now=true
 ·rw [if_pos hn] at h
  refine thenS_mr h (fun a ha=>step_err g2.le ha) fun s3 e3 h=>?_
  obtain ⟨g3,p3⟩:=step_gz g2.le e3
  refine thenS_mr h (fun a ha=>need_errB g3 ha) fun s4 e4 h=>?_
  obtain ⟨g4,p4,n4⟩:=need_gz g3 e4
  have hl3:s3.now.size=1:=by rw [n4];rfl
  injection h with h;subst h
  have q0:=hz.eq;have q1:=g1.eq;have q2:=g2.eq;have q3:=g3.eq
  refine ⟨g4,.inr (.inr (.inr ⟨?_,rfl,hn⟩)),?_,?_⟩
  ·rcases hk with ⟨h,_⟩ | ⟨h,_⟩<;>simp [h]
  ·show (leafT k 0 s2.now).length+_<=_
   have:(leafT k 0 s2.now).length=s2.now.size+6:=by rcases hk with ⟨h,_⟩ | ⟨h,_⟩<;>subst h<;>simp [leafT]
   omega
  simp only [GT.toGD,GD.size,GD.sizes]
  omega
 rw [if_neg hn] at h
 injection h with h;subst h
 have:=g2.eq;have:=g2.le
 show s2.pos<=s.size
 omega
theorem pars_mr (s:ByteArray):∀(f:Nat) (nt:NT),MP s (pars s f nt)
 | 0,_,_,_,_,h=>by cases h
 | f+1,.guard,st,x,hz,h=>by
  rw [pars] at h
  exact thenP_mr h (fun y hy=>pars_mr s f .side _ _ hz hy) fun g st1 hm h=>rowL_mr (pars_mr s f .side) kinds_ok.1 st.pos f g st1 x hm h
 | f+1,.side,st,x,hz,h=>by
  rw [pars] at h
  exact thenP_mr h (fun y hy=>pars_mr s f .part _ _ hz hy) fun g st1 hm h=>rowL_mr (pars_mr s f .part) kinds_ok.2.1 st.pos f g st1 x hm h
 | f+1,.sum,st,x,hz,h=>by
  rw [pars] at h
  exact thenP_mr h (fun y hy=>pars_mr s f .product _ _ hz hy) fun g st1 hm h=>rowL_mr (pars_mr s f .product) kinds_ok.2.2.2.1 st.pos f g st1 x hm h
 | f+1,.product,st,x,hz,h=>by
  rw [pars] at h
  exact thenP_mr h (fun y hy=>pars_mr s f .atom _ _ hz hy) fun g st1 hm h=>rowL_mr (pars_mr s f .atom) kinds_ok.2.2.2.2 st.pos f g st1 x hm h
 | f+1,.part,st,x,hz,h=>by
  rw [pars] at h
  split at h
  ·rename_i hn
   have hl:st.now.size=3:=by rw [hn];rfl
   refine thenS_mr h (fun a ha=>step_err hz.le ha) fun s1 e1 h=>?_
   obtain ⟨g1,p1⟩:=step_gz hz.le e1
   cases hp:pars s f .part s1 with
   | none=>rw [hp] at h;cases h
   | some y =>
    have hy:=pars_mr s f .part _ _ g1 hp
    rw [hp] at h
    cases y with
    | error a=>injection h with h;subst h;exact hy
    | ok z =>
     obtain ⟨g,s2⟩:=z
     injection h with h;subst h
     obtain ⟨q1,q2,q3,q4⟩:=hy
     have he:=hz.eq
     refine ⟨q1,⟨rfl,q2⟩,?_,?_⟩
     ·rw [one_kid];omega
     simp only [GT.toGD,GD.size,GD.sizes]
     show 1+0+_+_<=_
     omega
  refine thenP_mr h (fun y hy=>pars_mr s f .sum _ _ hz hy) fun g st1 hm h=>?_
  cases hk:kRel st1.now with
  | none=>rw [hk] at h;injection h with h;subst h;exact hm
  | some k =>
   rw [hk] at h
   obtain ⟨k1,k2⟩:=kinds_ok.2.2.1 _ _ hk
   obtain ⟨q1,q2,q3,q4⟩:=hm
   refine thenS_mr h (fun a ha=>step_err q1.le ha) fun s2 e2 h=>?_
   obtain ⟨g2,p2⟩:=step_gz q1.le e2
   cases hp:pars s f .sum s2 with
   | none=>rw [hp] at h;cases h
   | some y =>
    have hy:=pars_mr s f .sum _ _ g2 hp
    rw [hp] at h
    cases y with
    | error a=>injection h with h;subst h;exact hy
    | ok z =>
     obtain ⟨g3,s3⟩:=z
     injection h with h;subst h
     exact join_mr k1 k2 q1 q2 q3 q4 p2 hy
 | f+1,.atom,st,x,hz,h=>by
  by_cases h1:st.now=trueS
  ·rw [at1 h1] at h
   have:st.now.size=4:=by rw [h1];rfl
   exact leaf_mr hz (.inl ⟨.inl rfl,rfl,rfl⟩) (by rw [this];decide) (by rw [this];decide) h
  by_cases h2:st.now=falseS
  ·rw [at2 h1 h2] at h
   have:st.now.size=5:=by rw [h2];rfl
   exact leaf_mr hz (.inl ⟨.inr rfl,rfl,rfl⟩) (by rw [this];decide) (by rw [this];decide) h
  by_cases h3:st.now=openS\/st.now=doneS
  ·rw [at3 h1 h2 h3] at h
   refine open_mr ?_ hz h
   rcases h3 with h3 | h3
   ·exact .inl ⟨by rw [if_neg (by rw [h3];decide)],h3⟩
   exact .inr ⟨by rw [if_pos h3],h3⟩
  by_cases h4:st.now=lparS
  ·rw [at4 h1 h2 h3 h4] at h
   refine thenS_mr h (fun a ha=>step_err hz.le ha) fun s1 e1 h=>?_
   obtain ⟨g1,p1⟩:=step_gz hz.le e1
   cases hp:pars s f .guard s1 with
   | none=>rw [hp] at h;cases h
   | some y =>
    have hy:=pars_mr s f .guard _ _ g1 hp
    rw [hp] at h
    cases y with
    | error a=>injection h with h;subst h;exact hy
    | ok z =>
     obtain ⟨g,s2⟩:=z
     obtain ⟨q1,q2,q3,q4⟩:=hy
     simp only [thenP] at h
     refine thenS_mr h (fun a ha=>need_errB q1 ha) fun s3 e3 h=>?_
     obtain ⟨g3,p3,-⟩:=need_gz q1 e3
     injection h with h;subst h
     have:=hz.eq;have:=q1.eq
     exact ⟨g3,q2,by omega,by omega⟩
  by_cases h5:0<st.now.size/\digitB (st.now.data.toList.headD 0)=true
  ·rw [at5 h1 h2 h3 h4 h5] at h
   obtain ⟨q1,q2,q3⟩:=tok_digits hz.tok h5.1 h5.2
   have hl:=dec_len q1 q2
   rw [ba_len] at hl
   refine leaf_mr hz (.inr (.inl ⟨rfl,by omega,by omega,rfl⟩)) ?_ (by show 1+0<=_;omega) h
   show (Lib.decDigits ((spell 0 st.now.data.toList:Int).toNat)).length<=_
   rw [Int.toNat_natCast]
   omega
  by_cases h6:0<st.now.size/\st.now.data.toList.headD 0=39
  ·rw [at6 h1 h2 h3 h4 h5 h6] at h
   obtain ⟨q1,q2,q3⟩:=tok_quoted hz.tok h6.1 h6.2
   refine leaf_mr hz (.inr (.inr (.inl ⟨rfl,rfl,q2⟩))) ?_ (by omega) h
   show (39 :: (_++[39])).length<=_
   rw [List.length_cons,List.length_append,ba_len]
   simp only [List.length_singleton]
   omega
  rw [at7 h1 h2 h3 h4 h5 h6] at h
  exact name_mr hz h
theorem readG_mr {s:ByteArray} {f:Nat} {x:Except (Nat×Int) GT} (h:readG s f=some x):match x with
  | .ok g=>g.may/\g.deep<=32/\g.txt.length<=5*s.size/\g.toGD.size<=3*s.size
  | .error (a,_)=>a<=s.size:=by
 unfold readG at h
 cases hs:stepB s 0 with
 | error a=>rw [hs] at h;injection h with h;subst h;exact step_err (Nat.zero_le _) hs
 | ok st =>
  rw [hs] at h
  simp only at h
  obtain ⟨g0,p0⟩:=step_gz (Nat.zero_le _) hs
  cases hp:pars s f .guard st with
  | none=>rw [hp] at h;cases h
  | some y =>
   have hy:=pars_mr s f .guard _ _ g0 hp
   rw [hp] at h
   cases y with
   | error a=>simp only at h;injection h with h;subst h;exact hy
   | ok z =>
    obtain ⟨g,st1⟩:=z
    obtain ⟨q1,q2,q3,q4⟩:=hy
    have hle:st1.pos<=s.size:=by have:=q1.eq;have:=q1.le;omega
    simp only at h
    split at h
    ·injection h with h;subst h;exact hle
    split at h
    ·injection h with h;subst h;exact Nat.zero_le _
    injection h with h;subst h
    rename_i hd
    have hw:g.txt.length<=g.kid.length:=by show _<=(wrapT _ _).length;unfold wrapT;split<;>simp;omega
    exact ⟨q2,by omega,by omega,by omega⟩
end Go.Proofs.YtfbbkmdhnkmonaaGreatDoor
namespace Go.Proofs.YtfbbkmdhnkmonaaGreatDoor
section
variable {α:Type} [DecidableEq α]
def freeB (lean:α->α->Bool) (l out:List α) (a:α):Bool:=l.all fun b=>!lean a b||decide (b∈out)
def ordL (lean:α->α->Bool) (l:List α):Nat->List α->List α->List α
 | 0,out,_=>out
 | f+1,out,rest=>match rest.findIdx? (freeB lean l out) with
  | none=>out
  | some i=>match rest[i]? with
   | none=>out
   | some a=>ordL lean l f (out++[a]) (rest.eraseIdx i)
structure OrdIs (lean:α->α->Bool) (l out rest:List α):Prop where
 perm:(out++rest).Perm l
 ahead:∀k (h:k<out.length),freeB lean l (out.take k) out[k]=true
 least:∀k (h:k<out.length),∃r:List α,r.Perm (out.drop k++rest)/\r.Sublist l/\∃i,r.findIdx? (freeB lean l (out.take k))=some i/\r[i]? = some out[k]
 sub:rest.Sublist l
theorem OrdIs.start (lean:α->α->Bool) (l:List α):OrdIs lean l [] l :=
 ⟨by simp,fun k h=>absurd h (by simp),fun k h=>absurd h (by simp),List.Sublist.refl _⟩
omit [DecidableEq α] in
theorem perm_erase {rest:List α} {i:Nat} {a:α} (h:rest[i]? = some a):(a :: rest.eraseIdx i).Perm rest:=by
 induction rest generalizing i with
 | nil=>simp at h
 | cons x r ih =>
  cases i with
  | zero=>simp at h;subst h;simp
  | succ i =>
   simp at h
   rw [List.eraseIdx_cons_succ]
   exact (List.Perm.swap x a _).trans ((ih h).cons x)
theorem OrdIs.next {lean:α->α->Bool} {l out rest:List α} (h:OrdIs lean l out rest) {i:Nat} {a:α} (hi:rest.findIdx? (freeB lean l out)=some i) (ha:rest[i]? = some a):OrdIs lean l (out++[a]) (rest.eraseIdx i):=by
 have hp:=perm_erase ha
 have hfree:freeB lean l out a=true:=by
  have:=List.findIdx?_eq_some_iff_getElem.1 hi
  obtain ⟨h1,h2,-⟩:=this
  rw [List.getElem?_eq_getElem h1] at ha
  injection ha with ha
  rw [<-ha];exact h2
 refine ⟨?_,fun k hk=>?_,fun k hk=>?_,(List.eraseIdx_sublist ..).trans h.sub⟩
 ·rw [List.append_assoc]
  exact ((List.Perm.refl out).append hp).trans h.perm
 ·rcases Nat.lt_or_ge k out.length with h1 | h1
  ·rw [List.getElem_append_left h1,List.take_append_of_le_length (by omega)]
   exact h.ahead k h1
  have hke:k=out.length:=by simp at hk;omega
  subst hke
  rw [List.getElem_append_right (Nat.le_refl _),List.take_append_of_le_length (Nat.le_refl _),List.take_length]
  simpa using hfree
 rcases Nat.lt_or_ge k out.length with h1 | h1
 ·obtain ⟨r,hr1,hr2,i',hr3,hr4⟩:=h.least k h1
  refine ⟨r,?_,hr2,i',?_,?_⟩
  ·refine hr1.trans ?_
   rw [List.drop_append_of_le_length (by omega),List.append_assoc]
   exact (List.Perm.refl _).append hp.symm
  ·rw [List.take_append_of_le_length (by omega)];exact hr3
  rw [List.getElem_append_left h1];exact hr4
 have hke:k=out.length:=by simp at hk;omega
 subst hke
 refine ⟨rest,?_,h.sub,i,?_,?_⟩
 ·rw [List.drop_append_of_le_length (Nat.le_refl _),List.drop_length]
  exact hp.symm
 ·rw [List.take_append_of_le_length (Nat.le_refl _),List.take_length];exact hi
 rw [List.getElem_append_right (Nat.le_refl _)];simpa using ha
theorem ordL_is (lean:α->α->Bool) (l:List α):∀(f:Nat) (out rest:List α),OrdIs lean l out rest->∃rest',OrdIs lean l (ordL lean l f out rest) rest'
 | 0,out,rest,h=>⟨rest,by simpa [ordL] using h⟩
 | f+1,out,rest,h=>by
  simp only [ordL]
  split
  ·exact ⟨rest,h⟩
  rename_i i hi
  split
  ·exact ⟨rest,h⟩
  rename_i a ha
  exact ordL_is lean l f _ _ (h.next hi ha)
theorem freeB_iff {lean:α->α->Bool} {l out:List α} {a:α}:freeB lean l out a=true↔∀b∈l,lean a b=true->b∈out:=by
 simp only [freeB,List.all_eq_true,Bool.or_eq_true,Bool.not_eq_true',decide_eq_true_eq]
 constructor
 ·intro h b hb hl
  rcases h b hb with h1 | h1
  ·rw [hl] at h1;cases h1
  exact h1
 intro h b hb
 cases hl:lean a b with
 | false=>exact .inl rfl
 | true=>exact .inr (h b hb hl)
section
variable {lean:α->α->Bool} {l out rest:List α}
theorem OrdIs.nodup (h:OrdIs lean l out rest) (hl:l.Nodup):out.Nodup:=((h.perm.nodup_iff).2 hl).sublist (List.sublist_append_left _ _)
theorem OrdIs.mem (h:OrdIs lean l out rest) {a:α} (ha:a∈out):a∈l:=h.perm.mem_iff.1 (List.mem_append_left _ ha)
theorem OrdIs.all (h:OrdIs lean l out rest) (hlen:out.length=l.length):rest=[]:=by
 have:=h.perm.length_eq
 rw [List.length_append] at this
 exact List.eq_nil_of_length_eq_zero (by omega)
omit [DecidableEq α] in
end
end
end Go.Proofs.YtfbbkmdhnkmonaaGreatDoor
namespace Go.Proofs.YtfbbkmdhnkmonaaGreatDoor
open Go.RowKit
theorem readG_err {s:ByteArray} {f:Nat} {p:Nat} {q:Int} (h:readG s f=some (.error (p,q))):q≠0:=by
 unfold readG at h
 split at h
 ·injection h with h;injection h with h;injection h with h1 h2;omega
 split at h
 ·cases h
 ·injection h with h;injection h with h;injection h with h1 h2;omega
 split at h
 ·injection h with h;injection h with h;injection h with h1 h2;omega
 split at h
 ·injection h with h;injection h with h;injection h with h1 h2;omega
 cases h
open Classical in
noncomputable def readOf (s:ByteArray):Option GT:=if h:s.size<=16384/\∃t,∃f,readG s f=some (.ok t) then some h.2.choose else none
theorem readOf_some {s:ByteArray} {t:GT}:readOf s=some t↔s.size<=16384/\∃f,readG s f=some (.ok t):=by
 unfold readOf
 split
 ·rename_i h
  obtain ⟨f,hf⟩:=h.2.choose_spec
  constructor
  ·intro he
   injection he with he
   exact ⟨h.1,f,he▸hf⟩
  rintro ⟨-,f',hf'⟩
  have:=readG_fun hf hf'
  injection this with this
  rw [this]
 rename_i h
 constructor
 ·intro he;cases he
 rintro ⟨h1,f,hf⟩
 exact absurd ⟨h1,t,f,hf⟩ h
theorem readOf_may {s:ByteArray} {t:GT} (h:readOf s=some t):t.may/\t.deep<=32/\t.toGD.size<=60000:=by
 obtain ⟨h1,f,h2⟩:=readOf_some.1 h
 have:=readG_mr h2
 exact ⟨this.1,this.2.1,by have:=this.2.2.2;omega⟩
theorem ReadA.told {s:ByteArray} {g:GD} {a c:Int} (h:ReadA s g a c):(∃t,readOf s=some t/\g=t.toGD/\c=0)\/(readOf s=none/\g=zeroD/\c≠0):=by
 unfold ReadA at h
 split at h
 ·rename_i hb
  obtain ⟨rfl,-,rfl⟩:=h
  refine .inr ⟨?_,rfl,by decide⟩
  cases hr:readOf s with
  | none=>rfl
  | some t=>have:=(readOf_some.1 hr).1;omega
 rename_i hb
 obtain ⟨fu,r,h1,h2⟩:=h
 cases r with
 | ok t =>
  obtain ⟨rfl,-,rfl⟩:=h2
  exact .inl ⟨t,readOf_some.2 ⟨by omega,fu,h1⟩,rfl,rfl⟩
 | error p =>
  obtain ⟨p,q⟩:=p
  obtain ⟨rfl,-,rfl⟩:=h2
  refine .inr ⟨?_,rfl,readG_err h1⟩
  cases hr:readOf s with
  | none=>rfl
  | some t =>
   obtain ⟨-,f,hf⟩:=readOf_some.1 hr
   have:=readG_fun h1 hf
   cases this
def GT.kd:GT->Nat
 | .leaf k _ _=>k
 | .one k _=>k
 | .two k _ _=>k
def GT.tx:GT->ByteArray
 | .leaf _ _ s=>s
 | _=>⟨#[]⟩
theorem toGD_node (t:GT):∃n,t.toGD=.node t.kd n t.tx t.toGD.kids:=by
 cases t<;>exact ⟨_,rfl⟩
noncomputable def namedB (s:ByteArray):Bool:=match readOf s with
 | none=>false
 | some t=>decide (t.kd=5)&&(t.tx.toList==s.toList)
structure ModelD.Sml (m:ModelD):Prop where
 attrs:m.attrs.length<=1048576
 events:m.events.length<=1048576
 stages:m.stages.length<=1048576
 stones:m.stones.length<=1048576
 apart:m.apart.length<=1048576
 inS:∀s∈m.stages,s.opens.length<=1048576/\s.closes.length<=1048576
 inT:∀s∈m.stones,s.done.length<=1048576/\s.undo.length<=1048576
def ixOf {α:Type} (q:α->Bool) (l:List α):Int:=match l.findIdx? q with
 | some i=>(i:Int)
 | none=>-1
def stageIx (md:ModelD) (s:ByteArray):Int:=ixOf (fun x:StageD=>x.name.toList==s.toList) md.stages
def stoneIx (md:ModelD) (s:ByteArray):Int:=ixOf (fun x:StoneD=>x.name.toList==s.toList) md.stones
def attrIx (md:ModelD) (s:ByteArray):Int:=ixOf (fun x:AttrD=>x.name.toList==s.toList) md.attrs
theorem ixOf_le {α:Type} (q:α->Bool) (l:List α):-1<=ixOf q l/\ixOf q l<l.length:=by
 unfold ixOf
 split
 ·rename_i i h
  have:=(List.findIdx?_eq_some_iff_getElem.1 h).1
  omega
 omega
def judg (md:ModelD):GT->Int×Int
 | .leaf k _ s =>
  if k=3 then (2,0) else if k=4 then (3,0)
  else if k=5 then (if attrIx md s<0 then (0,6) else match md.attrs[(attrIx md s).toNat]? with
   | none=>(0,6)
   | some a=>if a.kind<1\/3<a.kind then (0,171) else (a.kind,0))
  else if k=6 then (if stageIx md s<0 then (0,6) else (1,0))
  else if k=7 then (if stoneIx md s<0 then (0,6) else (1,0))
  else (1,0)
 | .one _ a=>if (judg md a).2≠0 then (0,(judg md a).2) else if (judg md a).1=1 then (1,0) else (0,171)
 | .two k a b =>
  if (judg md a).2≠0 then (0,(judg md a).2) else if (judg md b).2≠0 then (0,(judg md b).2)
  else if k=9\/k=10 then (if (judg md a).1=1/\(judg md b).1=1 then (1,0) else (0,171))
  else if k=11 then (if (judg md b).1=(judg md a).1 then (1,0) else (0,171))
  else if (judg md a).1=2/\(judg md b).1=2 then (if k=12 then 1 else 2,0) else (0,171)
def namesOf (kind:Nat):GT->List ByteArray
 | .leaf k _ s=>if k=kind then [s] else []
 | .one _ a=>namesOf kind a
 | .two _ a b=>namesOf kind a++namesOf kind b
noncomputable def truthB (md:ModelD) (s:ByteArray):Bool:=if s.size=0 then true else match readOf s with
 | none=>false
 | some t=>decide (judg md t=(1,0))
def hasB (l:List ByteArray) (s:ByteArray):Bool:=l.any (fun e=>e.toList==s.toList)
def eventB (md:ModelD) (s:ByteArray):Bool:=hasB md.events s||(decide (0<=stageIx md s)&&match md.stages[(stageIx md s).toNat]? with
 | none=>false
 | some x=>decide (x.role.size≠0))
noncomputable def sentryB (md:ModelD) (s:SentryD):Bool :=
 (if s.on=0 then decide (s.name.size=0) else if s.on=1 then eventB md s.name else if s.on=2\/s.on=3 then decide (0<=stageIx md s.name) else if s.on=4\/s.on=5 then decide (0<=stoneIx md s.name) else false)&&truthB md s.cond
noncomputable def rowB (l:List ByteArray):Bool:=decide l.Nodup&&l.all namedB
noncomputable def stagedB (md:ModelD) (n:Nat) (s:StageD):Bool :=
 if s.inn < -1\/(n:Int)<=s.inn\/(s.role.size≠0/\namedB s.role=false)\/s.aft<0\/1099511627776<s.aft then false
 else if s.aft=0 then decide (s.event.size=0) else hasB md.events s.event
noncomputable def builtB (md:ModelD):Bool :=
 rowB (md.attrs.map AttrD.name)&&rowB (md.events++md.stages.map StageD.name)&&rowB (md.stones.map StoneD.name)&&!md.attrs.any (fun a=>decide (a.kind<1\/3<a.kind)) &&
 (List.range md.stages.length).all (fun n=>match md.stages[n]? with | none=>true | some s=>stagedB md n s) &&
 (md.stages.all fun s=>s.opens.all (sentryB md)&&s.closes.all (sentryB md))&&(md.stones.all fun s=>s.done.all (sentryB md)&&s.undo.all (sentryB md)) &&
 !md.apart.any (fun p=>!namedB p.1||!namedB p.2||p.1.toList==p.2.toList)
def manyN (md:ModelD):Nat:=(md.stages.map fun s=>s.opens.length+s.closes.length).sum+(md.stones.map fun s=>s.done.length+s.undo.length).sum
def tooMany (md:ModelD):Prop:=32<md.attrs.length\/32<md.events.length\/32<md.stages.length\/32<md.stones.length\/32<md.apart.length\/128<manyN md
instance (md:ModelD):Decidable (tooMany md):=by unfold tooMany;infer_instance
abbrev Pl:=Int×Int×Int
def senL (md:ModelD) (k n:Int):List SentryD :=
 if n<0 then [] else if k=1 then ((md.stages[n.toNat]?).map StageD.opens).getD [] else if k=2 then ((md.stages[n.toNat]?).map StageD.closes).getD [] else if k=3 then ((md.stones[n.toNat]?).map StoneD.done).getD [] else if k=4 then ((md.stones[n.toNat]?).map StoneD.undo).getD [] else []
def senAt (md:ModelD) (p:Pl):Option SentryD:=if p.2.2<0 then none else (senL md p.1 p.2.1)[p.2.2.toNat]?
def placesL (md:ModelD):List Pl :=
 ([1,2,3,4]:List Int).flatMap fun k=>(List.range (max md.stages.length md.stones.length)).flatMap fun (n:Nat)=>(List.range (senL md k (n:Int)).length).map fun (i:Nat)=>(k,(n:Int),(i:Int))
def withinF (md:ModelD) (other:Int):Nat->Int->Bool
 | 0,_=>false
 | f+1,n=>if n<0 then false else if n=other then true else match md.stages[n.toNat]? with
  | none=>false
  | some s=>withinF md other f s.inn
def withinB (md:ModelD) (n other:Int):Bool:=withinF md other (md.stages.length+1) n
def turnsB (md:ModelD) (p:Pl) (n:Int) (opens closes:Bool):Bool:=(opens&&(decide (p.1=1)&&decide (p.2.1=n)))||(closes&&(decide (p.1=2)&&withinB md n p.2.1))
noncomputable def condB (md:ModelD) (b:Pl) (c:ByteArray):Bool:=if c.size=0 then false else match readOf c with
 | none=>false
 | some t=>(namesOf 6 t).any (fun n=>turnsB md b (stageIx md n) true true)||(decide (2<b.1)&&(namesOf 7 t).any (fun n=>decide (b.2.1=stoneIx md n)))
noncomputable def leansS (md:ModelD) (a b:Pl) (s:SentryD):Bool :=
 (decide (s.on=2\/s.on=3)&&turnsB md b (stageIx md s.name) (decide (s.on=2)) (decide (s.on=3))) ||
 (decide (s.on=4\/s.on=5)&&(decide (b.1=s.on-1)&&decide (b.2.1=stoneIx md s.name))) ||
 (decide (a.1=1)&&match md.stages[a.2.1.toNat]? with
  | none=>false
  | some x=>decide (0<=x.inn)&&turnsB md b x.inn true true) ||
 condB md b s.cond
noncomputable def leansB (md:ModelD) (a b:Pl):Bool:=match senAt md a with
 | none=>false
 | some s=>leansS md a b s
noncomputable def orderL (md:ModelD):List Pl:=ordL (leansB md) (placesL md) (placesL md).length [] (placesL md)
noncomputable def checkE (md:ModelD):Int :=
 if namedB md.name=false then 5 else if tooMany md then 4 else if builtB md=false then 180 else if (orderL md).length<(placesL md).length then 181 else 0
end Go.Proofs.YtfbbkmdhnkmonaaGreatDoor
namespace Go.Proofs
open Go.Shelf
def Tryz.inPl_ren:Go.Shelf.Ren:=⟨fun | 7=>17 | 6=>33 | n=>n,fun | 22=>42 | 24=>33 | 4=>4 | 0=>0 | 3=>3 | n=>n,fun | n=>n⟩
theorem Tryz.inPl:Go.Proofs.SlLaysQ.n7 Tryz.prog Tryz.inPl_ren:={
 mixed:=by kernel_rfl
 f6:=⟨Tryz.f33.name,by decide,Tryz.func33.trans (congrArg some (by kernel_rfl))⟩
 f7:=⟨Tryz.f17.name,by decide,Tryz.func17.trans (congrArg some (by kernel_rfl))⟩
 t0:=Tryz.underlying0
 a0:=Tryz.isAgg0
 z0:=Tryz.sizeOf0
 v0:=Tryz.zeroValue0
 t3:=Tryz.underlying3
 a3:=Tryz.isAgg3
 z3:=Tryz.sizeOf3
 v3:=Tryz.zeroValue3
 t4:=Tryz.underlying4
 a4:=Tryz.isAgg4
 z4:=Tryz.sizeOf4
 v4:=Tryz.zeroValue4
 t22:=Tryz.underlying42
 a22:=Tryz.isAgg42
 z22:=Tryz.sizeOf42
 v22:=Tryz.zeroValue42 }
def Tryz.clonePl_ren:Go.Shelf.Ren:=⟨fun | 41=>51 | n=>n,fun | 22=>42 | 23=>33 | 4=>4 | n=>n,fun | n=>n⟩
theorem Tryz.clonePl:Go.Proofs.SlLaysE0.n41 Tryz.prog Tryz.clonePl_ren:={
 mixed:=by kernel_rfl
 f41:=⟨Tryz.f51.name,by decide,Tryz.func51.trans (congrArg some (by kernel_rfl))⟩
 t4:=Tryz.underlying4
 a4:=Tryz.isAgg4
 z4:=Tryz.sizeOf4
 v4:=Tryz.zeroValue4
 t22:=Tryz.underlying42
 a22:=Tryz.isAgg42
 z22:=Tryz.sizeOf42
 v22:=Tryz.zeroValue42 }
def Tryz.ixPl_ren:Go.Shelf.Ren:=⟨fun | 6=>52 | n=>n,fun | 22=>42 | 23=>33 | 25=>101 | 3=>3 | 0=>0 | 4=>4 | n=>n,fun | n=>n⟩
theorem Tryz.ixPl:Go.Proofs.SlLaysH0.n6 Tryz.prog Tryz.ixPl_ren:={
 mixed:=by kernel_rfl
 f6:=⟨Tryz.f52.name,by decide,Tryz.func52.trans (congrArg some (by kernel_rfl))⟩
 t0:=Tryz.underlying0
 a0:=Tryz.isAgg0
 z0:=Tryz.sizeOf0
 v0:=Tryz.zeroValue0
 t3:=Tryz.underlying3
 a3:=Tryz.isAgg3
 z3:=Tryz.sizeOf3
 v3:=Tryz.zeroValue3
 t4:=Tryz.underlying4
 a4:=Tryz.isAgg4
 z4:=Tryz.sizeOf4
 v4:=Tryz.zeroValue4
 t22:=Tryz.underlying42
 a22:=Tryz.isAgg42
 z22:=Tryz.sizeOf42
 v22:=Tryz.zeroValue42
 t25:=Tryz.underlying101
 a25:=Tryz.isAgg101
 z25:=Tryz.sizeOf101
 v25:=Tryz.zeroValue101 }
def Tryz.ixStage_ren:Go.Shelf.Ren:=⟨fun | 6=>74 | n=>n,fun | 22=>27 | 23=>38 | 25=>121 | 3=>3 | 0=>0 | 4=>4 | n=>n,fun | n=>n⟩
theorem Tryz.ixStage:Go.Proofs.SlLaysH0.n6 Tryz.prog Tryz.ixStage_ren:={
 mixed:=by kernel_rfl
 f6:=⟨Tryz.f74.name,by decide,Tryz.func74.trans (congrArg some (by kernel_rfl))⟩
 t0:=Tryz.underlying0
 a0:=Tryz.isAgg0
 z0:=Tryz.sizeOf0
 v0:=Tryz.zeroValue0
 t3:=Tryz.underlying3
 a3:=Tryz.isAgg3
 z3:=Tryz.sizeOf3
 v3:=Tryz.zeroValue3
 t4:=Tryz.underlying4
 a4:=Tryz.isAgg4
 z4:=Tryz.sizeOf4
 v4:=Tryz.zeroValue4
 t22:=Tryz.underlying27
 a22:=Tryz.isAgg27
 z22:=Tryz.sizeOf27
 v22:=Tryz.zeroValue27
 t25:=Tryz.underlying121
 a25:=Tryz.isAgg121
 z25:=Tryz.sizeOf121
 v25:=Tryz.zeroValue121 }
def Tryz.ixStone_ren:Go.Shelf.Ren:=⟨fun | 6=>76 | n=>n,fun | 22=>28 | 23=>58 | 25=>123 | 3=>3 | 0=>0 | 4=>4 | n=>n,fun | n=>n⟩
theorem Tryz.ixStone:Go.Proofs.SlLaysH0.n6 Tryz.prog Tryz.ixStone_ren:={
 mixed:=by kernel_rfl
 f6:=⟨Tryz.f76.name,by decide,Tryz.func76.trans (congrArg some (by kernel_rfl))⟩
 t0:=Tryz.underlying0
 a0:=Tryz.isAgg0
 z0:=Tryz.sizeOf0
 v0:=Tryz.zeroValue0
 t3:=Tryz.underlying3
 a3:=Tryz.isAgg3
 z3:=Tryz.sizeOf3
 v3:=Tryz.zeroValue3
 t4:=Tryz.underlying4
 a4:=Tryz.isAgg4
 z4:=Tryz.sizeOf4
 v4:=Tryz.zeroValue4
 t22:=Tryz.underlying28
 a22:=Tryz.isAgg28
 z22:=Tryz.sizeOf28
 v22:=Tryz.zeroValue28
 t25:=Tryz.underlying123
 a25:=Tryz.isAgg123
 z25:=Tryz.sizeOf123
 v25:=Tryz.zeroValue123 }
def Tryz.ixAttr_ren:Go.Shelf.Ren:=⟨fun | 6=>87 | n=>n,fun | 22=>25 | 23=>61 | 25=>91 | 3=>3 | 0=>0 | 4=>4 | n=>n,fun | n=>n⟩
theorem Tryz.ixAttr:Go.Proofs.SlLaysH0.n6 Tryz.prog Tryz.ixAttr_ren:={
 mixed:=by kernel_rfl
 f6:=⟨Tryz.f87.name,by decide,Tryz.func87.trans (congrArg some (by kernel_rfl))⟩
 t0:=Tryz.underlying0
 a0:=Tryz.isAgg0
 z0:=Tryz.sizeOf0
 v0:=Tryz.zeroValue0
 t3:=Tryz.underlying3
 a3:=Tryz.isAgg3
 z3:=Tryz.sizeOf3
 v3:=Tryz.zeroValue3
 t4:=Tryz.underlying4
 a4:=Tryz.isAgg4
 z4:=Tryz.sizeOf4
 v4:=Tryz.zeroValue4
 t22:=Tryz.underlying25
 a22:=Tryz.isAgg25
 z22:=Tryz.sizeOf25
 v22:=Tryz.zeroValue25
 t25:=Tryz.underlying91
 a25:=Tryz.isAgg91
 z25:=Tryz.sizeOf91
 v25:=Tryz.zeroValue91 }
def Tryz.ixPair_ren:Go.Shelf.Ren:=⟨fun | 6=>91 | n=>n,fun | 22=>29 | 23=>95 | 25=>96 | 3=>3 | 0=>0 | 4=>4 | n=>n,fun | n=>n⟩
theorem Tryz.ixPair:Go.Proofs.SlLaysH0.n6 Tryz.prog Tryz.ixPair_ren:={
 mixed:=by kernel_rfl
 f6:=⟨Tryz.f91.name,by decide,Tryz.func91.trans (congrArg some (by kernel_rfl))⟩
 t0:=Tryz.underlying0
 a0:=Tryz.isAgg0
 z0:=Tryz.sizeOf0
 v0:=Tryz.zeroValue0
 t3:=Tryz.underlying3
 a3:=Tryz.isAgg3
 z3:=Tryz.sizeOf3
 v3:=Tryz.zeroValue3
 t4:=Tryz.underlying4
 a4:=Tryz.isAgg4
 z4:=Tryz.sizeOf4
 v4:=Tryz.zeroValue4
 t22:=Tryz.underlying29
 a22:=Tryz.isAgg29
 z22:=Tryz.sizeOf29
 v22:=Tryz.zeroValue29
 t25:=Tryz.underlying96
 a25:=Tryz.isAgg96
 z25:=Tryz.sizeOf96
 v25:=Tryz.zeroValue96 }
end Go.Proofs
namespace Go.Proofs.YtfbbkmdhnkmonaaGreatDoor
open Go.RowKit
theorem list_of' {α:Type} [Inhabited α] (Q:Nat->α->Prop):∀(n:Nat) (_:∀j,j<n->∃x,Q j x),∃zs:List α,zs.length=n/\∀j,j<n->Q j zs[j]!
 | 0,_=>⟨[],rfl,fun j hj=>absurd hj (Nat.not_lt_zero _)⟩
 | n+1,h=>by
  obtain ⟨zs,hl,hz⟩:=list_of' Q n fun j hj=>h j (by omega)
  obtain ⟨x,hx⟩:=h n (by omega)
  refine ⟨zs++[x],by simp [hl],fun j hj=>?_⟩
  rcases Nat.lt_or_ge j n with h1 | h1
  ·rw [getElem!_pos (zs++[x]) j (by simp [hl];omega),List.getElem_append_left (by omega),<-getElem!_pos zs j (by omega)]
   exact hz j h1
  obtain rfl:j=n:=by omega
  rw [getElem!_pos (zs++[x]) j (by simp [hl]),List.getElem_append_right (by omega)]
  simpa [hl] using hx
theorem idx_ixOf {α β:Type} (p:α->Bool) (q:β->Bool) (d:α):∀(zs:List α) (l:List β) (i:Nat) (_:zs.length=l.length) (_:∀j (h:j<zs.length) (h':j<l.length),p zs[j]=q l[j]),Lib.idxByFrom (fun _ y=>p y) d zs i=(match l.findIdx? q with | some j=>((i+j:Nat):Int) | none=>-1)
 | [],[],_,_,_=>rfl
 | z :: zs,x :: l,i,hl,h=>by
  have h0:=h 0 (by simp) (by simp)
  simp only [gE0] at h0
  simp only [Lib.idxByFrom,h0,List.findIdx?_cons]
  cases q x with
  | true=>simp
  | false =>
   have ih:=idx_ixOf p q d zs l (i+1) (by simpa using hl) fun j h1 h2=>by have:=h (j+1) (by simpa using h1) (by simpa using h2);simpa only [gE1] using this
   simp only [Bool.false_eq_true,if_false,ih]
   cases l.findIdx? q with
   | none=>rfl
   | some j =>
    show ((i+1+j:Nat):Int)=((i+(j+1):Nat):Int)
    congr 1
    omega
theorem idx_ix {α β:Type} (p:α->Bool) (q:β->Bool) (d:α) (zs:List α) (l:List β) (hl:zs.length=l.length) (h:∀j (h:j<zs.length) (h':j<l.length),p zs[j]=q l[j]):Lib.idxBy (fun _ y=>p y) zs d=ixOf q l:=by
 have:=idx_ixOf p q d zs l 0 hl h
 unfold Lib.idxBy ixOf
 rw [this]
 cases l.findIdx? q with
 | none=>rfl
 | some j=>simp
structure StageRow where
 nm:ByteArray
 x1:Value
 x2:Value
 x3:Value
 x4:Value
 x5:Value
 x6:Value
def StageRow.cs (r:StageRow):List Value:=[.string r.nm,r.x1,r.x2,r.x3,r.x4,r.x5,r.x6]
instance:Inhabited StageRow:=⟨⟨⟨#[]⟩,undef,undef,undef,undef,undef,undef⟩⟩
theorem ixStageM (f:FuncId) (lb:Array Value) (eg:∀args w,(callFunc f args).run Tryz.prog w=.ok (.enter f args) w) (l:List StageD) (name:ByteArray) (a:Option Addr) (c:Nat) (w:World) (hl:l.length<=1048576) (h:Mem false (From 0) w (.list 7 (l.map StageD.ds)) (.slice a l.length c))
  (hp:PredBelow Tryz.prog f lb (fun x=>.agg (StageRow.cs x).toArray) (fun x=>x.nm.toList==name.toList) w) :
  Calls Tryz.prog 74 #[.slice a l.length c,.func (.func f) #[] lb] w fun e w'=>e=.returned (.int .i64 (ixOf (fun x:StageD=>x.name.toList==name.toList) l))/\Below w.heap.size w w':=by
 obtain ⟨_,_,b,off,hv,-,hC⟩:=rec_open h
 injection hv with e1 e2 e3
 subst e1 e3
 by_cases h0:l.length=0
 ·have hnil:l=[]:=List.eq_nil_of_length_eq_zero h0
  subst hnil
  clear h hC hp
  go_enter Tryz.func74,Tryz.ntmps74
  go_wp2_with fail
  go_loopw [8] (fun i wr=>i=.int .i64 0/\wr=w) (fun _ _=>0)
  case atStart=>exact ⟨rfl,rfl⟩
  obtain ⟨rfl,rfl⟩:=hrel
  go_wp2_with fail
  go_ret
  exact ⟨rfl,Below.refl _ _⟩
 obtain ⟨rfl,-,hbl⟩:=hC.at0 (by omega)
 obtain ⟨zs,hzl,hz⟩:=list_of' (fun (j:Nat) (x:StageRow)=>∀(hj:j<l.length),x.nm=l[j].name/\∀i v,x.cs[i]? = some v->w.cell? ⟨b,off+j*7+i,none⟩=some v) l.length fun j hj=>by
  obtain ⟨us,hus,hcell⟩:=hC.row j hj
  obtain ⟨d1,e1,d2,e2,hu,-⟩:=StageD.cells hus
  subst hu
  exact ⟨⟨l[j].name,.int .i64 l[j].inn,.slice d1 l[j].opens.length e1,.slice d2 l[j].closes.length e2,.string l[j].role,.int .i64 l[j].aft,.string l[j].event⟩,fun _=>⟨rfl,fun i v hi=>hcell i v hi⟩⟩
 have hcon:=AnyQ.slices_IndexFunc Tryz.ixStage 7 Tryz.isAgg38 Tryz.sizeOf38 StageRow.cs (fun _=>rfl) (fun x=>x.nm.toList==name.toList) f lb eg b off l.length c zs w
  hp (by omega) (by omega) hbl (fun j hj i v hi=>(hz j (by omega) (by omega)).2 i v hi)
 have hix:Lib.idxBy (fun _ (y:StageRow)=>y.nm.toList==name.toList) (zs.take l.length) default=ixOf (fun x:StageD=>x.name.toList==name.toList) l:=by
  rw [<-hzl,List.take_length]
  refine idx_ix (fun y:StageRow=>y.nm.toList==name.toList) (fun x:StageD=>x.name.toList==name.toList) default zs l hzl fun j h1 h2=>?_
  have:=(hz j (by omega) h2).1
  rw [getElem!_pos zs j h1] at this
  rw [this]
 rw [hix] at hcon
 exact hcon
theorem modelStageCl (name:ByteArray) (B:Nat) (w:World) (hB:B<w.heap.size) (hcell:w.cell? ⟨B,0,none⟩=some (.string name)):PredBelow Tryz.prog 75 #[.pointer (some ⟨B,0,none⟩)] (fun x=>.agg (StageRow.cs x).toArray) (fun x=>x.nm.toList==name.toList) w:=fun W x hb=>by
 have hc:W.cell? ⟨B,0,none⟩=some (.string name):=(hb.cell (p:=⟨B,0,none⟩) hB).trans hcell
 have hBW:B<W.heap.size:=Nat.lt_of_lt_of_le hB hb.size
 have hne:B≠W.heap.size:=by omega
 show Calls Tryz.prog 75 #[.agg #[.string x.nm,x.x1,x.x2,x.x3,x.x4,x.x5,x.x6],.pointer (some ⟨B,0,none⟩)] W _
 go_enter Tryz.func75,Tryz.ntmps75
 go_wp2_with fail
 go_ret
 exact ⟨rfl,hb.alloc hb.size _⟩
theorem modelStage (md:ModelD) (v:ModelV) (name:ByteArray) (w:World) (hl:md.stages.length<=1048576) (hm:ModelM false (From 0) w md v) :
  Calls Tryz.prog 35 #[.agg (v.cs md).toArray,.string name] w fun e w'=>e=.returned (.int .i64 (stageIx md name))/\Below w.heap.size w w':=by
 have eg:∀args w,(callFunc 75 args).run Tryz.prog w=.ok (.enter 75 args) w:=enters_of Tryz.func75 (by kernel_rfl) rfl
 have HI:=hid (fun W (hb:Below w.heap.size w W) (B:Nat) (hc:W.cell? ⟨B,0,none⟩=some (.string name))=>ixStageM 75 #[.pointer (some ⟨B,0,none⟩)] eg md.stages name _ _ W hl (hm.stages.grow hb) (modelStageCl name B W (World.block_lt_of_cell? W _ hc) hc))
 have HQ:Hid (ixOf (fun x:StageD=>x.name.toList==name.toList) md.stages=stageIx md name):=rfl
 clear hm
 go_enter Tryz.func35,Tryz.ntmps35
 go_wp2_with fail
 have hc0:=(Arr.new (w.alloc (.cells (v.cs md).toArray 31)) [.string name] 9).cell (j:=0) (by simp)
 rw [size_alloc] at hc0
 refine (HI.out _ (((Below.refl w.heap.size w).alloc (Nat.le_refl _) _).alloc (by rw [size_alloc];omega) _) _ hc0).mono ?_
 rintro e w2 ⟨rfl,hb2⟩
 have HB2:=hid ((((Below.refl w.heap.size w).alloc (Nat.le_refl _) _).alloc (by rw [size_alloc];omega) _).trans (hb2.mono (by rw [size_alloc,size_alloc];omega)))
 rw [HQ.out]
 clear hb2 HI hc0
 go_wp2_with fail
 go_ret
 exact ⟨rfl,HB2.out⟩
theorem guardStageCl (name:ByteArray) (B:Nat) (w:World) (hB:B<w.heap.size) (hcell:w.cell? ⟨B,0,none⟩=some (.string name)):PredBelow Tryz.prog 237 #[.pointer (some ⟨B,0,none⟩)] (fun x=>.agg (StageRow.cs x).toArray) (fun x=>x.nm.toList==name.toList) w:=fun W x hb=>by
 have hc:W.cell? ⟨B,0,none⟩=some (.string name):=(hb.cell (p:=⟨B,0,none⟩) hB).trans hcell
 have hBW:B<W.heap.size:=Nat.lt_of_lt_of_le hB hb.size
 have hne:B≠W.heap.size:=by omega
 show Calls Tryz.prog 237 #[.agg #[.string x.nm,x.x1,x.x2,x.x3,x.x4,x.x5,x.x6],.pointer (some ⟨B,0,none⟩)] W _
 go_enter Tryz.func237,Tryz.ntmps237
 go_wp2_with fail
 go_ret
 exact ⟨rfl,hb.alloc hb.size _⟩
theorem guardStage (md:ModelD) (v:ModelV) (name:ByteArray) (w:World) (hl:md.stages.length<=1048576) (hm:ModelM false (From 0) w md v) :
  Calls Tryz.prog 235 #[.agg (v.cs md).toArray,.string name] w fun e w'=>e=.returned (.int .i64 (stageIx md name))/\Below w.heap.size w w':=by
 have eg:∀args w,(callFunc 237 args).run Tryz.prog w=.ok (.enter 237 args) w:=enters_of Tryz.func237 (by kernel_rfl) rfl
 have HI:=hid (fun W (hb:Below w.heap.size w W) (B:Nat) (hc:W.cell? ⟨B,0,none⟩=some (.string name))=>ixStageM 237 #[.pointer (some ⟨B,0,none⟩)] eg md.stages name _ _ W hl (hm.stages.grow hb) (guardStageCl name B W (World.block_lt_of_cell? W _ hc) hc))
 have HQ:Hid (ixOf (fun x:StageD=>x.name.toList==name.toList) md.stages=stageIx md name):=rfl
 clear hm
 go_enter Tryz.func235,Tryz.ntmps235
 go_wp2_with fail
 have hc0:=(Arr.new (w.alloc (.cells (v.cs md).toArray 31)) [.string name] 9).cell (j:=0) (by simp)
 rw [size_alloc] at hc0
 refine (HI.out _ (((Below.refl w.heap.size w).alloc (Nat.le_refl _) _).alloc (by rw [size_alloc];omega) _) _ hc0).mono ?_
 rintro e w2 ⟨rfl,hb2⟩
 have HB2:=hid ((((Below.refl w.heap.size w).alloc (Nat.le_refl _) _).alloc (by rw [size_alloc];omega) _).trans (hb2.mono (by rw [size_alloc,size_alloc];omega)))
 rw [HQ.out]
 clear hb2 HI hc0
 go_wp2_with fail
 go_ret
 exact ⟨rfl,HB2.out⟩
structure StoneRow where
 nm:ByteArray
 x1:Value
 x2:Value
def StoneRow.cs (r:StoneRow):List Value:=[.string r.nm,r.x1,r.x2]
instance:Inhabited StoneRow:=⟨⟨⟨#[]⟩,undef,undef⟩⟩
theorem ixStoneM (f:FuncId) (lb:Array Value) (eg:∀args w,(callFunc f args).run Tryz.prog w=.ok (.enter f args) w) (l:List StoneD) (name:ByteArray) (a:Option Addr) (c:Nat) (w:World) (hl:l.length<=1048576) (h:Mem false (From 0) w (.list 3 (l.map StoneD.ds)) (.slice a l.length c))
  (hp:PredBelow Tryz.prog f lb (fun x=>.agg (StoneRow.cs x).toArray) (fun x=>x.nm.toList==name.toList) w) :
  Calls Tryz.prog 76 #[.slice a l.length c,.func (.func f) #[] lb] w fun e w'=>e=.returned (.int .i64 (ixOf (fun x:StoneD=>x.name.toList==name.toList) l))/\Below w.heap.size w w':=by
 obtain ⟨_,_,b,off,hv,-,hC⟩:=rec_open h
 injection hv with e1 e2 e3
 subst e1 e3
 by_cases h0:l.length=0
 ·have hnil:l=[]:=List.eq_nil_of_length_eq_zero h0
  subst hnil
  clear h hC hp
  go_enter Tryz.func76,Tryz.ntmps76
  go_wp2_with fail
  go_loopw [8] (fun i wr=>i=.int .i64 0/\wr=w) (fun _ _=>0)
  case atStart=>exact ⟨rfl,rfl⟩
  obtain ⟨rfl,rfl⟩:=hrel
  go_wp2_with fail
  go_ret
  exact ⟨rfl,Below.refl _ _⟩
 obtain ⟨rfl,-,hbl⟩:=hC.at0 (by omega)
 obtain ⟨zs,hzl,hz⟩:=list_of' (fun (j:Nat) (x:StoneRow)=>∀(hj:j<l.length),x.nm=l[j].name/\∀i v,x.cs[i]? = some v->w.cell? ⟨b,off+j*3+i,none⟩=some v) l.length fun j hj=>by
  obtain ⟨us,hus,hcell⟩:=hC.row j hj
  obtain ⟨d1,e1,d2,e2,hu,-⟩:=StoneD.cells hus
  subst hu
  exact ⟨⟨l[j].name,.slice d1 l[j].done.length e1,.slice d2 l[j].undo.length e2⟩,fun _=>⟨rfl,fun i v hi=>hcell i v hi⟩⟩
 have hcon:=AnyQ.slices_IndexFunc Tryz.ixStone 3 Tryz.isAgg58 Tryz.sizeOf58 StoneRow.cs (fun _=>rfl) (fun x=>x.nm.toList==name.toList) f lb eg b off l.length c zs w
  hp (by omega) (by omega) hbl (fun j hj i v hi=>(hz j (by omega) (by omega)).2 i v hi)
 have hix:Lib.idxBy (fun _ (y:StoneRow)=>y.nm.toList==name.toList) (zs.take l.length) default=ixOf (fun x:StoneD=>x.name.toList==name.toList) l:=by
  rw [<-hzl,List.take_length]
  refine idx_ix (fun y:StoneRow=>y.nm.toList==name.toList) (fun x:StoneD=>x.name.toList==name.toList) default zs l hzl fun j h1 h2=>?_
  have:=(hz j (by omega) h2).1
  rw [getElem!_pos zs j h1] at this
  rw [this]
 rw [hix] at hcon
 exact hcon
theorem modelStoneCl (name:ByteArray) (B:Nat) (w:World) (hB:B<w.heap.size) (hcell:w.cell? ⟨B,0,none⟩=some (.string name)):PredBelow Tryz.prog 77 #[.pointer (some ⟨B,0,none⟩)] (fun x=>.agg (StoneRow.cs x).toArray) (fun x=>x.nm.toList==name.toList) w:=fun W x hb=>by
 have hc:W.cell? ⟨B,0,none⟩=some (.string name):=(hb.cell (p:=⟨B,0,none⟩) hB).trans hcell
 have hBW:B<W.heap.size:=Nat.lt_of_lt_of_le hB hb.size
 have hne:B≠W.heap.size:=by omega
 show Calls Tryz.prog 77 #[.agg #[.string x.nm,x.x1,x.x2],.pointer (some ⟨B,0,none⟩)] W _
 go_enter Tryz.func77,Tryz.ntmps77
 go_wp2_with fail
 go_ret
 exact ⟨rfl,hb.alloc hb.size _⟩
theorem modelStone (md:ModelD) (v:ModelV) (name:ByteArray) (w:World) (hl:md.stones.length<=1048576) (hm:ModelM false (From 0) w md v) :
  Calls Tryz.prog 36 #[.agg (v.cs md).toArray,.string name] w fun e w'=>e=.returned (.int .i64 (stoneIx md name))/\Below w.heap.size w w':=by
 have eg:∀args w,(callFunc 77 args).run Tryz.prog w=.ok (.enter 77 args) w:=enters_of Tryz.func77 (by kernel_rfl) rfl
 have HI:=hid (fun W (hb:Below w.heap.size w W) (B:Nat) (hc:W.cell? ⟨B,0,none⟩=some (.string name))=>ixStoneM 77 #[.pointer (some ⟨B,0,none⟩)] eg md.stones name _ _ W hl (hm.stones.grow hb) (modelStoneCl name B W (World.block_lt_of_cell? W _ hc) hc))
 have HQ:Hid (ixOf (fun x:StoneD=>x.name.toList==name.toList) md.stones=stoneIx md name):=rfl
 clear hm
 go_enter Tryz.func36,Tryz.ntmps36
 go_wp2_with fail
 have hc0:=(Arr.new (w.alloc (.cells (v.cs md).toArray 31)) [.string name] 9).cell (j:=0) (by simp)
 rw [size_alloc] at hc0
 refine (HI.out _ (((Below.refl w.heap.size w).alloc (Nat.le_refl _) _).alloc (by rw [size_alloc];omega) _) _ hc0).mono ?_
 rintro e w2 ⟨rfl,hb2⟩
 have HB2:=hid ((((Below.refl w.heap.size w).alloc (Nat.le_refl _) _).alloc (by rw [size_alloc];omega) _).trans (hb2.mono (by rw [size_alloc,size_alloc];omega)))
 rw [HQ.out]
 clear hb2 HI hc0
 go_wp2_with fail
 go_ret
 exact ⟨rfl,HB2.out⟩
theorem guardStoneCl (name:ByteArray) (B:Nat) (w:World) (hB:B<w.heap.size) (hcell:w.cell? ⟨B,0,none⟩=some (.string name)):PredBelow Tryz.prog 238 #[.pointer (some ⟨B,0,none⟩)] (fun x=>.agg (StoneRow.cs x).toArray) (fun x=>x.nm.toList==name.toList) w:=fun W x hb=>by
 have hc:W.cell? ⟨B,0,none⟩=some (.string name):=(hb.cell (p:=⟨B,0,none⟩) hB).trans hcell
 have hBW:B<W.heap.size:=Nat.lt_of_lt_of_le hB hb.size
 have hne:B≠W.heap.size:=by omega
 show Calls Tryz.prog 238 #[.agg #[.string x.nm,x.x1,x.x2],.pointer (some ⟨B,0,none⟩)] W _
 go_enter Tryz.func238,Tryz.ntmps238
 go_wp2_with fail
 go_ret
 exact ⟨rfl,hb.alloc hb.size _⟩
theorem guardStone (md:ModelD) (v:ModelV) (name:ByteArray) (w:World) (hl:md.stones.length<=1048576) (hm:ModelM false (From 0) w md v) :
  Calls Tryz.prog 236 #[.agg (v.cs md).toArray,.string name] w fun e w'=>e=.returned (.int .i64 (stoneIx md name))/\Below w.heap.size w w':=by
 have eg:∀args w,(callFunc 238 args).run Tryz.prog w=.ok (.enter 238 args) w:=enters_of Tryz.func238 (by kernel_rfl) rfl
 have HI:=hid (fun W (hb:Below w.heap.size w W) (B:Nat) (hc:W.cell? ⟨B,0,none⟩=some (.string name))=>ixStoneM 238 #[.pointer (some ⟨B,0,none⟩)] eg md.stones name _ _ W hl (hm.stones.grow hb) (guardStoneCl name B W (World.block_lt_of_cell? W _ hc) hc))
 have HQ:Hid (ixOf (fun x:StoneD=>x.name.toList==name.toList) md.stones=stoneIx md name):=rfl
 clear hm
 go_enter Tryz.func236,Tryz.ntmps236
 go_wp2_with fail
 have hc0:=(Arr.new (w.alloc (.cells (v.cs md).toArray 31)) [.string name] 9).cell (j:=0) (by simp)
 rw [size_alloc] at hc0
 refine (HI.out _ (((Below.refl w.heap.size w).alloc (Nat.le_refl _) _).alloc (by rw [size_alloc];omega) _) _ hc0).mono ?_
 rintro e w2 ⟨rfl,hb2⟩
 have HB2:=hid ((((Below.refl w.heap.size w).alloc (Nat.le_refl _) _).alloc (by rw [size_alloc];omega) _).trans (hb2.mono (by rw [size_alloc,size_alloc];omega)))
 rw [HQ.out]
 clear hb2 HI hc0
 go_wp2_with fail
 go_ret
 exact ⟨rfl,HB2.out⟩
instance:Inhabited AttrD:=⟨⟨⟨#[]⟩,0⟩⟩
theorem ixAttrM (f:FuncId) (lb:Array Value) (eg:∀args w,(callFunc f args).run Tryz.prog w=.ok (.enter f args) w) (l:List AttrD) (name:ByteArray) (a:Option Addr) (c:Nat) (w:World) (hl:l.length<=1048576) (h:Mem false (From 0) w (flatL 2 AttrD.cs l) (.slice a l.length c))
  (hp:PredBelow Tryz.prog f lb (fun x=>.agg (AttrD.cs x).toArray) (fun x=>x.name.toList==name.toList) w) :
  Calls Tryz.prog 87 #[.slice a l.length c,.func (.func f) #[] lb] w fun e w'=>e=.returned (.int .i64 (ixOf (fun x:AttrD=>x.name.toList==name.toList) l))/\Below w.heap.size w w':=by
 obtain ⟨_,_,b,off,hv,-,hC⟩:=flat_open h
 injection hv with e1 e2 e3
 subst e1 e3
 by_cases h0:l.length=0
 ·have hnil:l=[]:=List.eq_nil_of_length_eq_zero h0
  subst hnil
  clear h hC hp
  go_enter Tryz.func87,Tryz.ntmps87
  go_wp2_with fail
  go_loopw [8] (fun i wr=>i=.int .i64 0/\wr=w) (fun _ _=>0)
  case atStart=>exact ⟨rfl,rfl⟩
  obtain ⟨rfl,rfl⟩:=hrel
  go_wp2_with fail
  go_ret
  exact ⟨rfl,Below.refl _ _⟩
 obtain ⟨rfl,-,hbl⟩:=hC.at0 (by omega)
 have hcon:=AnyQ.slices_IndexFunc Tryz.ixAttr 2 Tryz.isAgg61 Tryz.sizeOf61 AttrD.cs (fun _=>rfl) (fun x=>x.name.toList==name.toList) f lb eg b off l.length c l w
  hp (by omega) (by omega) hbl (fun j hj i v hi=>hC.cell j hj i v (by rw [getElem!_pos l j hj] at hi;exact hi))
 have hix:Lib.idxBy (fun _ (y:AttrD)=>y.name.toList==name.toList) (l.take l.length) default=ixOf (fun x:AttrD=>x.name.toList==name.toList) l:=by
  rw [List.take_length]
  exact idx_ix (fun y:AttrD=>y.name.toList==name.toList) (fun x:AttrD=>x.name.toList==name.toList) default l l rfl fun j h1 h2=>rfl
 rw [hix] at hcon
 exact hcon
theorem attrCl (name:ByteArray) (B:Nat) (w:World) (hB:B<w.heap.size) (hcell:w.cell? ⟨B,2,none⟩=some (.string name)):PredBelow Tryz.prog 234 #[.pointer (some ⟨B,0,none⟩)] (fun x=>.agg (AttrD.cs x).toArray) (fun x=>x.name.toList==name.toList) w:=fun W x hb=>by
 have hc:W.cell? ⟨B,2,none⟩=some (.string name):=(hb.cell (p:=⟨B,2,none⟩) hB).trans hcell
 have hBW:B<W.heap.size:=Nat.lt_of_lt_of_le hB hb.size
 have hne:B≠W.heap.size:=by omega
 show Calls Tryz.prog 234 #[.agg #[.string x.name,.int .u8 x.kind],.pointer (some ⟨B,0,none⟩)] W _
 go_enter Tryz.func234,Tryz.ntmps234
 go_wp2_with fail
 go_ret
 exact ⟨rfl,hb.alloc hb.size _⟩
def GRng (w:World):Prop:=∃t p,w.cell? ⟨2,0,none⟩=some (.iface t p)
theorem GRng.below {w w':World} (h:GRng w) (hb:Below w.heap.size w w'):GRng w':=by
 obtain ⟨t,p,h⟩:=h
 exact ⟨t,p,cellBelow2 hb h⟩
theorem ModelM.grow {o:Bool} {P:Nat->Prop} {w w':World} {m:ModelD} {v:ModelV} (h:ModelM o P w m v) (hb:Below w.heap.size w w'):ModelM o P w' m v :=
 ⟨h.attrs.grow hb,h.events.grow hb,h.stages.grow hb,h.stones.grow hb,h.apart.grow hb⟩
theorem box6 {W0 W:World} {b:Nat} {T:TypeId} {m:ModelD} {v:ModelV} (h:Arr W0 b T (v.cs m)) (hb:Below W0.heap.size W0 W) :
  W.cell? ⟨b,0,none⟩=some (.string m.name)/\W.cell? ⟨b,1,none⟩=some (.slice v.a1 m.attrs.length v.c1)/\W.cell? ⟨b,2,none⟩=some (.slice v.a2 m.events.length v.c2)/\W.cell? ⟨b,3,none⟩=some (.slice v.a3 m.stages.length v.c3) /\
  W.cell? ⟨b,4,none⟩=some (.slice v.a4 m.stones.length v.c4)/\W.cell? ⟨b,5,none⟩=some (.slice v.a5 m.apart.length v.c5):=by
 have x0:=h.cell (j:=0) (by simp)
 have x1:=h.cell (j:=1) (by simp)
 have x2:=h.cell (j:=2) (by simp)
 have x3:=h.cell (j:=3) (by simp)
 have x4:=h.cell (j:=4) (by simp)
 have x5:=h.cell (j:=5) (by simp)
 simp only [gE0,gE1] at x0 x1 x2 x3 x4 x5
 exact ⟨cellBelow2 hb x0,cellBelow2 hb x1,cellBelow2 hb x2,cellBelow2 hb x3,cellBelow2 hb x4,cellBelow2 hb x5⟩
theorem gin_kt {w:World} {t:GT} {cs:List Value} (h:GIn w t.toGD cs):∃(n:Int) (a:Option Addr) (l c:Nat),cs=[.int .u8 t.kd,.int .i64 n,.string t.tx,.slice a l c]:=by
 obtain ⟨k,n,sx,a,c,b,off,heg,rfl,-⟩:=h.kid
 obtain ⟨n',hn⟩:=toGD_node t
 rw [hn] at heg
 simp only [GD.node.injEq] at heg
 obtain ⟨rfl,-,rfl,-⟩:=heg
 exact ⟨_,_,_,_,rfl⟩
theorem gin_zero {w:World} {cs:List Value} (h:GIn w zeroD cs):∃(a:Option Addr) (l c:Nat),cs=[.int .u8 (0:Nat),.int .i64 0,.string ⟨#[]⟩,.slice a l c]:=by
 obtain ⟨k,n,sx,a,c,b,off,heg,rfl,-⟩:=h.kid
 simp only [zeroD,GD.node.injEq] at heg
 obtain ⟨rfl,rfl,rfl,-⟩:=heg
 exact ⟨_,_,_,rfl⟩
theorem namedB_some {s:ByteArray} {t:GT} (h:readOf s=some t):namedB s=(decide (t.kd=5)&&(t.tx.toList==s.toList)):=by
 unfold namedB;rw [h]
theorem namedB_none {s:ByteArray} (h:readOf s=none):namedB s=false:=by
 unfold namedB;rw [h]
theorem named_walk (s:ByteArray) (w:World) (hv:GRng w):Calls Tryz.prog 19 #[.string s] w fun e w'=>e=.returned (.bool (namedB s))/\Below w.heap.size w w':=by
 have HR:=hid (Read_walkA s w hv)
 obtain ⟨q,hq⟩:∃q,namedB s=q:=⟨_,rfl⟩
 rw [hq]
 have HQ:=hid hq
 clear hv hq
 go_enter Tryz.func19,Tryz.ntmps19
 go_wp2_with fail
 refine HR.out.mono ?_
 intro e w2 hr
 obtain ⟨hb2,g,a,c,cs,rfl,hg,hA⟩:=hr.answer
 rcases hA.told with ⟨t,hro,rfl,rfl⟩ | ⟨hro,rfl,hc⟩
 ·obtain ⟨n,ga,gl,gc,rfl⟩:=gin_kt hg
  have HB3:=hid (hb2.alloc hb2.size (.cells #[.int .u8 t.kd,.int .i64 n,.string t.tx,.slice ga gl gc] 80))
  have HN:=hid (namedB_some hro)
  clear HR hr hA hg hb2 hro
  by_cases hk:t.kd=5
  ·have e1:((t.kd:Int)==5)=true:=by rw [hk];rfl
   have HN2:Hid ((t.tx.toList==s.toList)=q):=by
    show _=_
    rw [<-HQ.out,HN.out,hk];simp
   clear HN HQ hk
   go_wp2_with fail
   go_ret
   exact ⟨ret_bool HN2.out,HB3.out⟩
  have e1:((t.kd:Int)==5)=false:=by simp;omega
  have HN2:Hid (false=q):=by
   show _=_
   rw [<-HQ.out,HN.out];simp [hk]
  clear HN HQ hk
  go_wp2_with fail
  go_ret
  exact ⟨ret_bool HN2.out,HB3.out⟩
 obtain ⟨ga,gl,gc,rfl⟩:=gin_zero hg
 have HB3:=hid (hb2.alloc hb2.size (.cells #[.int .u8 (0:Nat),.int .i64 0,.string ⟨#[]⟩,.slice ga gl gc] 80))
 have HN2:Hid (false=q):=by
  show _=_
  rw [<-HQ.out,namedB_none hro]
 have e1:(c==0)=false:=by simpa using hc
 clear HR hr hA hg hb2 hro HQ hc
 go_wp2_with fail
 go_ret
 exact ⟨ret_bool HN2.out,HB3.out⟩
def NodeV:GT->Value->Prop
 | .leaf k n s,v=>∃(a:Option Addr) (c:Nat),v=.iface 138 (.agg #[.int .u8 k,.int .i64 n,.string s,.slice a 0 c])
 | .one _ a,v=>∃u,v=.iface 209 (.agg #[u])/\NodeV a u
 | .two k a b,v=>∃(n:Int) (s:ByteArray) (p:Option Addr) (l c:Nat) (u1 u2:Value),v=.iface 211 (.agg #[.int .u8 k,.int .i64 n,.string s,.slice p l c,u1,u2])/\NodeV a u1/\NodeV b u2
end Go.Proofs.YtfbbkmdhnkmonaaGreatDoor
