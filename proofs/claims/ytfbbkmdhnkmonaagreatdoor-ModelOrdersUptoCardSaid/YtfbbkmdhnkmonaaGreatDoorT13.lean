/- Proved, each under the conditions that it names: docketref17: what the grammar's functions come to, behind a fault too; is, in any state; two; docketref17: guard, side, product. -/
import Derived.Test.YtfbbkmdhnkmonaaGreatDoorT12
set_option maxRecDepth 100000
set_option maxHeartbeats 32000000
namespace Go.Proofs.YtfbbkmdhnkmonaaGreatDoor
open Go.RowKit
def GX (X:Nat->Prop) (w:World):Option GT->List Value->Prop
 | some g,cs=>GIs X w g cs
 | none,cs=>Four cs
theorem GX.keepR {X:Nat->Prop} {R:Nat} {w w':World} (hX:X R) (hk:KeepR R w w'):∀ {t:Option GT} {cs:List Value},GX X w t cs->GX X w' t cs
 | some _,_,h=>GIs.keepR hX hk h
 | none,_,h=>h
theorem GX.below {X:Nat->Prop} {w w':World} (hb:Below w.heap.size w w'):∀ {t:Option GT} {cs:List Value},GX X w t cs->GX X w' t cs
 | some _,_,h=>GIs.below hb h
 | none,_,h=>h
theorem GX.setCell {X:Nat->Prop} {w:World} {p:Addr} (hX:X p.block) (v:Value):∀ {t:Option GT} {cs:List Value},GX X w t cs->GX X (w.setCell p v) t cs
 | some _,_,h=>GIs.setCell hX v h
 | none,_,h=>h
theorem GX.mono {X Y:Nat->Prop} {w:World} (hXY:∀k,k<w.heap.size->Y k->X k):∀ {t:Option GT} {cs:List Value},GX X w t cs->GX Y w t cs
 | some _,_,h=>GIs.mono hXY h
 | none,_,h=>h
theorem GX.four {X:Nat->Prop} {w:World}:∀ {t:Option GT} {cs:List Value},GX X w t cs->Four cs
 | some _,_,h=>GIs.four h
 | none,_,h=>h
def twoO (k:Nat):Option GT->Option GT->Option GT
 | some a,some b=>some (.two k a b)
 | _,_=>none
def oneO (k:Nat):Option GT->Option GT
 | some a=>some (.one k a)
 | none=>none
theorem rfTwo_walk (X:Nat->Prop) (k:Nat) (a b:Option GT) (da db:List Value) (w:World) (hX:∀k,X k->k<w.heap.size) (ha:GX X w a da) (hb:GX X w b db) :
  Calls Tryz.prog 126 #[.int .u8 k,.agg da.toArray,.agg db.toArray] w fun e w'=>Below w.heap.size w w'/\∃cs:List Value,e=.returned (.agg cs.toArray)/\GX X w' (twoO k a b) cs:=by
 have HA:=hid ha
 have HB:=hid hb
 obtain ⟨k1,n1,s1,a1,l1,c1,rfl⟩:=ha.four
 obtain ⟨k2,n2,s2,a2,l2,c2,rfl⟩:=hb.four
 clear ha hb
 go_enter Tryz.func126,Tryz.ntmps126
 go_wp2_with fail
 refine ret_guard (fn:=Tryz.f126) rfl (g:=w.heap.size+1+1) (cs:=[.int .u8 k,.int .i64 0,.string ⟨#[]⟩,.slice (some ⟨w.heap.size+1+1+1,0,none⟩) 2 2]) rfl rfl rfl (Arr.alloc ⟨alloc_at (by rw [size_alloc,size_alloc])⟩ _) ?_
 have hbel:Below w.heap.size w _:=((((Below.refl w.heap.size w).alloc (Nat.le_refl _) (.cells #[.int .u8 k1,.int .i64 n1,.string s1,.slice a1 l1 c1] 80)).alloc (by simp) (.cells #[.int .u8 k2,.int .i64 n2,.string s2,.slice a2 l2 c2] 80)).alloc (by simp<;>omega) (.cells #[.int .u8 k,.int .i64 0,.string ⟨#[]⟩,.slice (some ⟨w.heap.size+1+1+1,0,none⟩) 2 2] 80)).alloc (by simp<;>omega) (.cells #[.int .u8 k1,.int .i64 n1,.string s1,.slice a1 l1 c1,.int .u8 k2,.int .i64 n2,.string s2,.slice a2 l2 c2] 80)
 refine ⟨hbel,_,rfl,?_⟩
 cases a with
 | none=>exact ⟨_,_,_,_,_,_,rfl⟩
 | some a =>
  cases b with
  | none=>exact ⟨_,_,_,_,_,_,rfl⟩
  | some b=>exact ⟨_,_,_,rfl,fun hx=>by have:=hX _ hx;omega,⟨alloc_at (by rw [size_alloc,size_alloc,size_alloc])⟩,GIs.below hbel HA.out,GIs.below hbel HB.out⟩
def isX (s:ByteArray) (y:ByteArray):Except Nat GSt->Bool×Except Nat GSt
 | .ok st=>if st.now=y then (true,stepB s st.i) else (false,.ok st)
 | .error a=>(false,.error a)
theorem rfIsX (R:Nat) (s:ByteArray) (x:Except Nat GSt) (y:ByteArray) (w:World) (hs:s.size<=17000) (hi:∀st,x=.ok st->st.i<=s.size) (h:RfIs R w s x) :
  Calls Tryz.prog 125 #[.pointer (some ⟨R,0,none⟩),.string y] w (AdvR R s (isX s y x).2 (.bool (isX s y x).1) w):=by
 cases x with
 | ok st =>
  by_cases hy:st.now=y
  ·subst hy
   have:=rfIs_yes R s st w hs (hi st rfl) h
   rw [isX,if_pos rfl]
   exact this
  rw [isX,if_neg hy]
  refine (rfIs_no R s st y w hy h).mono ?_
  rintro e w' ⟨rfl,rfl⟩
  exact ⟨KeepR.refl _ _,rfl,h⟩
 | error a =>
  refine (rfIs_bad R s a y w h).mono ?_
  rintro e w' ⟨rfl,rfl⟩
  exact ⟨KeepR.refl _ _,rfl,h⟩
theorem isX_yes {s y:ByteArray} {x:Except Nat GSt} (h:(isX s y x).1=true):∃st,x=.ok st/\st.now=y/\(isX s y x).2=stepB s st.i:=by
 cases x with
 | ok st =>
  by_cases hy:st.now=y
  ·rw [isX,if_pos hy];exact ⟨st,rfl,hy,rfl⟩
  rw [isX,if_neg hy] at h;cases h
 | error a=>cases h
theorem isX_no {s y:ByteArray} {x:Except Nat GSt} (h:(isX s y x).1=false):(isX s y x).2=x/\∀st,x=.ok st->¬st.now=y:=by
 cases x with
 | ok st =>
  by_cases hy:st.now=y
  ·rw [isX,if_pos hy] at h;cases h
  rw [isX,if_neg hy];exact ⟨rfl,fun st' h=>by cases h;exact hy⟩
 | error a=>exact ⟨rfl,fun _ h=>by cases h⟩
def GSX (s:ByteArray) (x:Except Nat GSt):Prop:=∀st,x=.ok st->GS s st
theorem GSX.le {s:ByteArray} {x:Except Nat GSt} (h:GSX s x):∀st,x=.ok st->st.i<=s.size:=fun st hx=>(h st hx).le
theorem GSX.step {s:ByteArray} {st:GSt} (h:GS s st):GSX s (stepB s st.i):=fun _ hx=>(step_gs h.le hx).1
def PX (s:ByteArray) (nt:NT) (x x':Except Nat GSt) (t:Option GT):Prop:=match x with
 | .error a=>x'=.error a
 | .ok st=>∃fu r,pars s fu nt st=some r/\match r with
  | .ok (g,st1)=>x'=.ok st1/\t=some g/\GS s st1/\st.pos<=st1.pos
  | .error a=>x'=.error a
theorem PX.gsx {s:ByteArray} {nt:NT} {x x':Except Nat GSt} {t:Option GT} (h:PX s nt x x' t):GSX s x':=by
 intro st1 h1
 subst h1
 cases x with
 | error a=>cases (show Except.ok st1=Except.error a from h)
 | ok st =>
  obtain ⟨fu,r,-,hr⟩:=h
  cases r with
  | error a=>cases (show Except.ok st1=Except.error a from hr)
  | ok gs =>
   obtain ⟨g,st2⟩:=gs
   obtain ⟨h1,-,h2,-⟩:=hr
   injection h1 with h1
   exact h1▸h2
def SubX (R:Nat) (s:ByteArray) (N:Nat) (F:FuncId) (nt:NT):Prop :=
 ∀(x:Except Nat GSt) (w:World),(∀st,x=.ok st->s.size-st.pos<N)->GSX s x->RfIs R w s x->Calls Tryz.prog F #[.pointer (some ⟨R,0,none⟩)] w fun e w' =>
  KeepR R w w'/\∃x' t cs,e=.returned (.agg (List.toArray cs))/\GX (fun k=>k<w.heap.size) w' t cs/\RfIs R w' s x'/\PX s nt x x' t
def LoopX (s:ByteArray) (nt:NT) (kinds:ByteArray->Option Nat) (x0 x:Except Nat GSt) (t:Option GT):Prop:=match x0 with
 | .error b=>x=.error b
 | .ok st0=>match x with
  | .ok st=>∃g,t=some g/\GS s st/\st0.pos<=st.pos/\Cont s nt kinds (fun fu=>thenP (pars s fu nt st0) fun g st1=>rowL s (pars s fu nt) kinds fu g st1) g st
  | .error a=>∃fu,thenP (pars s fu nt st0) (fun g st1=>rowL s (pars s fu nt) kinds fu g st1)=some (.error a)
theorem loop_first {s:ByteArray} {nt:NT} {kinds:ByteArray->Option Nat} {x0 x:Except Nat GSt} {t:Option GT} (h:PX s nt x0 x t):LoopX s nt kinds x0 x t:=by
 cases x0 with
 | error b=>exact h
 | ok st0 =>
  obtain ⟨fu,r,hp,hr⟩:=h
  cases r with
  | error a =>
   obtain rfl:x=.error a:=hr
   exact ⟨fu,by rw [hp];rfl⟩
  | ok gs =>
   obtain ⟨g,st1⟩:=gs
   obtain ⟨rfl,rfl,h1,h2⟩:=hr
   exact ⟨g,rfl,h1,h2,cont_first hp⟩
theorem LoopX.gsx {s:ByteArray} {nt:NT} {kinds:ByteArray->Option Nat} {x0 x:Except Nat GSt} {t:Option GT} (h:LoopX s nt kinds x0 x t):GSX s x:=by
 intro st1 h1
 subst h1
 cases x0 with
 | error a=>cases (show Except.ok st1=Except.error a from h)
 | ok st0 =>
  obtain ⟨g,-,h2,-⟩:=h
  exact h2
theorem loop_next {s:ByteArray} {nt:NT} {kinds:ByteArray->Option Nat} {x0 x2:Except Nat GSt} {st:GSt} {t t2:Option GT} {k:Nat} (h:LoopX s nt kinds x0 (.ok st) t) (hk:kinds st.now=some k) (hp:PX s nt (stepB s st.i) x2 t2):LoopX s nt kinds x0 x2 (twoO k t t2):=by
 cases x0 with
 | error b=>cases (show Except.ok st=Except.error b from h)
 | ok st0 =>
  obtain ⟨g,rfl,h1,h2,h3⟩:=h
  cases hs:stepB s st.i with
  | error a =>
   rw [hs] at hp
   obtain rfl:x2=.error a:=hp
   exact cont_step_err h3 hk hs
  | ok st1 =>
   rw [hs] at hp
   obtain ⟨fu,r,hp,hr⟩:=hp
   cases r with
   | error a =>
    obtain rfl:x2=.error a:=hr
    exact cont_sub_err h3 hk hs hp
   | ok gs =>
    obtain ⟨g2,st2⟩:=gs
    obtain ⟨rfl,rfl,h5,h6⟩:=hr
    have h7:=(step_gs h1.le hs).2
    have h8:=h1.pos
    exact ⟨_,rfl,h5,by omega,cont_next h3 hk hs hp⟩
theorem loop_end {s:ByteArray} {nt ntO:NT} {kinds:ByteArray->Option Nat} {x0 x:Except Nat GSt} {t:Option GT} (h:LoopX s nt kinds x0 x t) (hk:∀st,x=.ok st->kinds st.now=none)
  (hO:∀fu st0,pars s (fu+1) ntO st0=thenP (pars s fu nt st0) fun g st1=>rowL s (pars s fu nt) kinds fu g st1):PX s ntO x0 x t:=by
 cases x0 with
 | error b=>exact h
 | ok st0 =>
  cases x with
  | error a =>
   obtain ⟨fu,h⟩:=h
   exact ⟨fu+1,.error a,by rw [hO];exact h,rfl⟩
  | ok st =>
   obtain ⟨g,rfl,h1,h2,h3⟩:=h
   obtain ⟨fu,h4⟩:=cont_end h3 (hk st rfl)
   exact ⟨fu+1,.ok (g,st),by rw [hO];exact h4,rfl,rfl,h1,h2⟩
def remR (R:Nat) (s:ByteArray) (w:World):Nat:=match w.cell? ⟨R,4,none⟩ with
 | some (.bool true)=>0
 | _=>s.size+1-posI R w
theorem remR_ok {R:Nat} {w:World} {s:ByteArray} {st:GSt} (h:RfIs R w s (.ok st)):remR R s w=s.size+1-st.pos:=by
 have h':Arr w R 155 [.string s,.int .i64 (st.i:Int),.int .i64 (st.pos:Int),.string st.now,.bool false,.int .i64 0]:=h
 obtain ⟨-,-,x2,-,x4,-⟩:=rf_cells h'
 rw [remR,x4]
 show s.size+1-posI R w=_
 rw [posI,x2]
 simp [intOf]
theorem remR_bad {R:Nat} {w:World} {s:ByteArray} {a:Nat} (h:RfIs R w s (.error a)):remR R s w=0:=by
 obtain ⟨i,p,h⟩:=h
 obtain ⟨-,-,-,-,x4,-⟩:=rf_cells h
 rw [remR,x4]
theorem remR_lt {R:Nat} {s:ByteArray} {w w':World} {st:GSt} {nt:NT} {x2:Except Nat GSt} {t2:Option GT} (hg:GS s st) (hne:st.now.size≠0) (h:RfIs R w s (.ok st)) (hp:PX s nt (stepB s st.i) x2 t2) (h':RfIs R w' s x2):remR R s w' < remR R s w:=by
 have h1:=hg.pos
 have h2:=hg.le
 rw [remR_ok h]
 cases x2 with
 | error a=>rw [remR_bad h'];omega
 | ok st2 =>
  rw [remR_ok h']
  have h3:st.pos<st.i:=by rcases hg.adv with h | h;exact absurd h hne;exact h
  cases hs:stepB s st.i with
  | error a=>rw [hs] at hp;cases (show Except.ok st2=Except.error a from hp)
  | ok st1 =>
   rw [hs] at hp
   have h4:=(step_gs hg.le hs).2
   obtain ⟨fu,r,-,hr⟩:=hp
   cases r with
   | error a=>cases (show Except.ok st2=Except.error a from hr)
   | ok gs =>
    obtain ⟨g2,st3⟩:=gs
    obtain ⟨h5,-,-,h6⟩:=hr
    injection h5 with h5
    subst h5
    omega
structure LoopW (R:Nat) (s:ByteArray) (w:World) (gb:Nat) (wr:World) (x:Except Nat GSt) (t:Option GT) (cs:List Value):Prop where
 rd:RfIs R wr s x
 keep:KeepR R w wr
 out:Arr wr w.heap.size 80 zeroG
 cell:Arr wr gb 80 cs
 gx:GX (fun k=>k<w.heap.size+1\/k=gb) wr t cs
theorem RfIs.far {R j:Nat} {w:World} {s:ByteArray} {b:Nat} (hb:R≠b) (v:Value):∀ {x:Except Nat GSt},RfIs R w s x->RfIs R (w.setCell ⟨b,j,none⟩ v) s x
 | .ok _,h=>Arr.far (a:=⟨b,j,none⟩) h hb v
 | .error _,⟨i,p,h⟩=>⟨i,p,Arr.far (a:=⟨b,j,none⟩) h hb v⟩
theorem LoopW.store {R:Nat} {s:ByteArray} {w w6:World} {gb:Nat} {x:Except Nat GSt} {t:Option GT} {c0 c1 c2 c3 d0 d1 d2 d3:Value} (hk:KeepR R w w6) (hr:RfIs R w6 s x) (ho:Arr w6 w.heap.size 80 zeroG)
  (hc:Arr w6 gb 80 [c0,c1,c2,c3]) (hx:GX (fun k=>k<w.heap.size+1\/k=gb) w6 t [d0,d1,d2,d3]) (hRw:R<w.heap.size) (hgb:w.heap.size<gb) :
  LoopW R s w gb ((((w6.setCell ⟨gb,0,none⟩ d0).setCell ⟨gb,1,none⟩ d1).setCell ⟨gb,2,none⟩ d2).setCell ⟨gb,3,none⟩ d3) x t [d0,d1,d2,d3]:=by
 have hK:∀ {W:World} (j:Nat) (v:Value),KeepR R w W->KeepR R w (W.setCell ⟨gb,j,none⟩ v):=fun j v h=>h.setNew (p:=⟨gb,j,none⟩) (by show _<=gb;omega) v
 have hF:∀ {W:World} (j:Nat) (v:Value),RfIs R W s x->RfIs R (W.setCell ⟨gb,j,none⟩ v) s x:=fun j v h=>h.far (by omega) v
 have hX:∀ {W:World} (j:Nat) (v:Value),GX (fun k=>k<w.heap.size+1\/k=gb) W t [d0,d1,d2,d3]->GX (fun k=>k<w.heap.size+1\/k=gb) (W.setCell ⟨gb,j,none⟩ v) t [d0,d1,d2,d3]:=fun j v h=>h.setCell (p:=⟨gb,j,none⟩) (.inr rfl) v
 have hO:∀ {W:World} (j:Nat) (v:Value),Arr W w.heap.size 80 zeroG->Arr (W.setCell ⟨gb,j,none⟩ v) w.heap.size 80 zeroG:=fun j v h=>Arr.far h (a:=⟨gb,j,none⟩) (by show w.heap.size≠gb;omega) v
 exact ⟨hF 3 _ (hF 2 _ (hF 1 _ (hF 0 _ hr))),hK 3 _ (hK 2 _ (hK 1 _ (hK 0 _ hk))),hO 3 _ (hO 2 _ (hO 1 _ (hO 0 _ ho))),(((hc.set 0 d0).set 1 d1).set 2 d2).set 3 d3,hX 3 _ (hX 2 _ (hX 1 _ (hX 0 _ hx)))⟩
theorem storeO {R:Nat} {s:ByteArray} {w W:World} {x:Except Nat GSt} {t:Option GT} {c0 c1 c2 c3 d0 d1 d2 d3:Value} (hk:KeepR R w W) (hr:RfIs R W s x) (ho:Arr W w.heap.size 80 [c0,c1,c2,c3])
  (hx:GX (fun k=>k<w.heap.size+1) W t [d0,d1,d2,d3]) (hRw:R<w.heap.size) :
  KeepR R w ((((W.setCell ⟨w.heap.size,0,none⟩ d0).setCell ⟨w.heap.size,1,none⟩ d1).setCell ⟨w.heap.size,2,none⟩ d2).setCell ⟨w.heap.size,3,none⟩ d3) /\
  RfIs R ((((W.setCell ⟨w.heap.size,0,none⟩ d0).setCell ⟨w.heap.size,1,none⟩ d1).setCell ⟨w.heap.size,2,none⟩ d2).setCell ⟨w.heap.size,3,none⟩ d3) s x /\
  Arr ((((W.setCell ⟨w.heap.size,0,none⟩ d0).setCell ⟨w.heap.size,1,none⟩ d1).setCell ⟨w.heap.size,2,none⟩ d2).setCell ⟨w.heap.size,3,none⟩ d3) w.heap.size 80 [d0,d1,d2,d3] /\
  GX (fun k=>k<w.heap.size) ((((W.setCell ⟨w.heap.size,0,none⟩ d0).setCell ⟨w.heap.size,1,none⟩ d1).setCell ⟨w.heap.size,2,none⟩ d2).setCell ⟨w.heap.size,3,none⟩ d3) t [d0,d1,d2,d3]:=by
 have hK:∀ {W:World} (j:Nat) (v:Value),KeepR R w W->KeepR R w (W.setCell ⟨w.heap.size,j,none⟩ v):=fun j v h=>h.setNew (p:=⟨w.heap.size,j,none⟩) (Nat.le_refl _) v
 have hF:∀ {W:World} (j:Nat) (v:Value),RfIs R W s x->RfIs R (W.setCell ⟨w.heap.size,j,none⟩ v) s x:=fun j v h=>h.far (by omega) v
 have hX:∀ {W:World} (j:Nat) (v:Value),GX (fun k=>k<w.heap.size+1) W t [d0,d1,d2,d3]->GX (fun k=>k<w.heap.size+1) (W.setCell ⟨w.heap.size,j,none⟩ v) t [d0,d1,d2,d3]:=fun j v h=>h.setCell (p:=⟨w.heap.size,j,none⟩) (Nat.lt_succ_self _) v
 exact ⟨hK 3 _ (hK 2 _ (hK 1 _ (hK 0 _ hk))),hF 3 _ (hF 2 _ (hF 1 _ (hF 0 _ hr))),(((ho.set 0 d0).set 1 d1).set 2 d2).set 3 d3,(hX 3 _ (hX 2 _ (hX 1 _ (hX 0 _ hx)))).mono fun k _ h=>Nat.lt_succ_of_lt h⟩
theorem rf_guard {R:Nat} {s:ByteArray} {N:Nat} (hs:s.size<=17000) (hsub:SubX R s N 124 .side):SubX R s N 94 .guard:=by
 intro x0 w hN hg h
 have hRw:R<w.heap.size:=h.lt
 have HSUB:=hid hsub
 have HN:=hid hN
 have HG:=hid hg
 have hra:RfIs R (w.alloc (.cells #[.int .u8 0,.int .i64 0,.string ⟨#[]⟩,.slice none 0 0] 80)) s x0:=h.below ((Below.refl _ w).alloc (Nat.le_refl _) _)
 have HRA:=hid hra
 clear h hra hg hN hsub
 go_enter Tryz.func94,Tryz.ntmps94
 go_wp2_with fail
 refine (HSUB.out x0 _ HN.out HG.out HRA.out).mono ?_
 rintro e w2 ⟨hk2,x1,t1,cs,rfl,hx1,hr1,hp1⟩
 have HK2:=hid ((KeepR.of ((Below.refl w.heap.size w).alloc (Nat.le_refl _) (.cells #[.int .u8 0,.int .i64 0,.string ⟨#[]⟩,.slice none 0 0] 80))).trans hk2)
 have hgb1:w.heap.size<w2.heap.size:=by have:=hk2.size;rw [size_alloc] at this;omega
 have HA2:=hid ((Arr.new w [.int .u8 0,.int .i64 0,.string ⟨#[]⟩,.slice none 0 0] 80).keepR hk2 (by omega))
 have HL2:=hid (loop_first (kinds:=kOr) hp1)
 have hX1:GX (fun k=>k<w.heap.size+1\/k=w2.heap.size) w2 t1 cs:=hx1.mono (fun k hk h=>show k<(w.alloc _).heap.size by rw [size_alloc];omega)
 obtain ⟨k1,n1,s1,a1,l1,c1,rfl⟩:=hx1.four
 have HRow:Hid (LoopW R s w w2.heap.size (w2.alloc (.cells #[.int .u8 k1,.int .i64 n1,.string s1,.slice a1 l1 c1] 80)) x1 t1 [.int .u8 k1,.int .i64 n1,.string s1,.slice a1 l1 c1]) :=
  ⟨hr1.below ((Below.refl _ _).alloc (Nat.le_refl _) _),HK2.out.alloc _,HA2.out.alloc _,Arr.new w2 [.int .u8 k1,.int .i64 n1,.string s1,.slice a1 l1 c1] 80,hX1.below ((Below.refl w2.heap.size w2).alloc (Nat.le_refl _) _)⟩
 clear hk2 hX1 hx1 hr1 hp1 HRA HK2 HA2
 go_wp2_with fail
 generalize w2.alloc (.cells #[.int .u8 k1,.int .i64 n1,.string s1,.slice a1 l1 c1] 80)=w3 at *
 generalize w2.heap.size=gb at *
 go_loopw [6,7] (fun _ _ wr=>∃x t cs,Hid (LoopW R s w gb wr x t cs)/\Hid (LoopX s .side kOr x0 x t)) (fun _ _ wr=>remR R s wr)
 case atStart=>exact ⟨x1,t1,_,HRow,HL2⟩
 clear HRow HL2
 obtain ⟨x,t,cs,HW,HL⟩:=hrel
 have HIS:=hid (rfIsX R s x orS wr hs HL.out.gsx.le HW.out.rd)
 obtain ⟨b,hb⟩:∃b,(isX s orS x).1=b:=⟨_,rfl⟩
 obtain ⟨x4,hx4⟩:∃x4,(isX s orS x).2=x4:=⟨_,rfl⟩
 have hyes:b=true->∃st,x=.ok st/\st.now=orS/\x4=stepB s st.i:=fun h=>hx4▸isX_yes (hb.trans h)
 have hno:b=false->x4=x/\∀st,x=.ok st->¬st.now=orS:=fun h=>hx4▸isX_no (hb.trans h)
 rw [hb,hx4] at HIS
 clear hb hx4
 go_wp2_with fail
 refine HIS.out.mono ?_
 rintro e w4 ⟨hk4,rfl,hr4⟩
 obtain ⟨q1,m1,z1,b1,l2,c2,rfl⟩:=HW.out.gx.four
 have HR4:=hid hr4
 have HC4:=hid (HW.out.cell.keepR hk4 (by omega))
 have HO4:=hid (HW.out.out.keepR hk4 (by omega))
 have HK4:=hid (HW.out.keep.trans hk4)
 have HX4:=hid (GX.keepR (X:=fun k=>k<w.heap.size+1\/k=gb) (Or.inl (by omega)) hk4 HW.out.gx)
 clear hk4 hr4 HIS
 have y0:=HC4.out.cell (j:=0) (by simp)
 have y1:=HC4.out.cell (j:=1) (by simp)
 have y2:=HC4.out.cell (j:=2) (by simp)
 have y3:=HC4.out.cell (j:=3) (by simp)
 simp only [gE0,gE1] at y0 y1 y2 y3
 cases b with
 | true =>
  obtain ⟨st,rfl,hnow,rfl⟩:=hyes rfl
  have hgs:=HL.out.gsx st rfl
  have HGS:=hid hgs
  have HNOW:=hid hnow
  have HG4:=hid (GSX.step hgs)
  have HN4:Hid (∀st',stepB s st.i=.ok st'->s.size-st'.pos<N):=fun st' hst=>by
   have h1:=(step_gs hgs.le hst).2
   have h2:=hgs.pos
   cases x0 with
   | error b=>cases (show Except.ok st=Except.error b from HL.out)
   | ok st0 =>
    obtain ⟨_,_,_,h3,_⟩:=HL.out
    have h4:=HN.out st0 rfl
    omega
  generalize hx4:stepB s st.i=x4 at *
  have HX0:=hid hx4
  clear hx4 hyes hno hgs hnow
  go_wp2_with fail
  refine wp_region_held_drew (S:=fun _=>True) (by kernel_rfl) trivial (fun hH=>?_)
  have HR5:=hid (HR4.out.below (Below.refl w4.heap.size w4).drew)
  have HC5:=hid (Arr.drew HC4.out)
  have HO5:=hid (Arr.drew HO4.out)
  have HK5:=hid (KeepR.drew HK4.out)
  have HX5:=hid (HX4.out.below (Below.refl w4.heap.size w4).drew)
  clear HR4 HC4 HO4 HK4 HX4
  replace y0:=HC5.out.cell (j:=0) (by simp)
  replace y1:=HC5.out.cell (j:=1) (by simp)
  replace y2:=HC5.out.cell (j:=2) (by simp)
  replace y3:=HC5.out.cell (j:=3) (by simp)
  simp only [gE0,gE1] at y0 y1 y2 y3
  generalize w4.drew=Wd at *
  refine tK (i:=1) (oi:=⟨some 9,.move (.tmp 0),153,"ref.go:156",#[],none⟩) (v:=.pointer (some ⟨R,0,none⟩)) (Or.inl ⟨by rfl,fun W hS=>by go_simp⟩) hH ?_
  refine rD [0,2] ?_
  refine AllReadyH.cons rfl (fun K hK=>?_) (AllReadyH.cons rfl (fun K hK=>?_) AllReadyH.nil)
  ·go_simp
   refine kK hK trivial (fun hH=>?_)
   clear hK K
   refine rD [2] ?_
   refine AllReadyH.cons rfl (fun K hK=>?_) AllReadyH.nil
   go_simp
   refine (HSUB.out x4 Wd HN4.out HG4.out HR5.out).mono ?_
   rintro e w5 ⟨hk5,x5,t5,cs5,rfl,hx5,hr5,hp5⟩
   have hoz:w.heap.size<Wd.heap.size:=HO5.out.lt
   have hcz:gb<Wd.heap.size:=HC5.out.lt
   have HX6:=hid (GX.keepR (X:=fun k=>k<w.heap.size+1\/k=gb) (Or.inl (by omega)) hk5 HX5.out)
   have HX7:=hid (hx5.mono (Y:=fun k=>k<w.heap.size+1\/k=gb) (fun k _ h=>show k<Wd.heap.size by omega))
   have HC6:=hid (HC5.out.keepR hk5 (by omega))
   have HO6:=hid (HO5.out.keepR hk5 (by omega))
   have HR6:=hid hr5
   have HP6:=hid hp5
   have HK6:=hid (HK5.out.trans hk5)
   obtain ⟨q5,m5,z5,b5,l5,c5,rfl⟩:=hx5.four
   replace y0:=HC6.out.cell (j:=0) (by simp)
   replace y1:=HC6.out.cell (j:=1) (by simp)
   replace y2:=HC6.out.cell (j:=2) (by simp)
   replace y3:=HC6.out.cell (j:=3) (by simp)
   simp only [gE0,gE1] at y0 y1 y2 y3
   clear hk5 hx5 hr5 hp5
   refine kK hK trivial (fun hH=>?_)
   clear hK K
   refine rD [3] ?_
   refine AllReadyH.cons rfl (fun K hK=>?_) AllReadyH.nil
   go_simp
   refine (rfTwo_walk (fun k=>k<w.heap.size+1\/k=gb) 10 t t5 [.int .u8 q1,.int .i64 m1,.string z1,.slice b1 l2 c2] [.int .u8 q5,.int .i64 m5,.string z5,.slice b5 l5 c5] w5 (fun k h=>by have:=HC6.out.lt;have:=HO6.out.lt;omega) HX6.out HX7.out).mono ?_
   rintro e w6 ⟨hb6,cs6,rfl,hx6⟩
   have HC7:=hid (Arr.below HC6.out hb6 HC6.out.lt)
   have HO7:=hid (Arr.below HO6.out hb6 HO6.out.lt)
   have HR7:=hid (HR6.out.below hb6)
   have HK7:=hid (HK6.out.next hb6)
   have HX8:=hid hx6
   obtain ⟨q6,m6,z6,b6,l6,c6,rfl⟩:=hx6.four
   have f0:=HC7.out.frozen 0
   have f1:=HC7.out.frozen 1
   have f2:=HC7.out.frozen 2
   have f3:=HC7.out.frozen 3
   replace y0:=HC7.out.cell (j:=0) (by simp)
   replace y1:=HC7.out.cell (j:=1) (by simp)
   replace y2:=HC7.out.cell (j:=2) (by simp)
   replace y3:=HC7.out.cell (j:=3) (by simp)
   simp only [gE0,gE1] at y0 y1 y2 y3
   clear hb6 hx6
   refine kK hK trivial (fun hH=>?_)
   clear hK K
   refine rD [4] ?_
   refine AllReadyH.cons rfl (fun K hK=>?_) AllReadyH.nil
   go_simp
   refine kK hK trivial (fun hH=>?_)
   clear hK K
   refine wpAnyH_done (by kernel_rfl) ?_ _
   have HROW:=hid (LoopW.store (gb:=gb) HK7.out HR7.out HO7.out HC7.out HX8.out hRw hgb1)
   have HLP:=hid (loop_next (k:=10) HL.out (by rw [HNOW.out];rfl) (HX0.out▸HP6.out))
   have HRM:=hid (remR_lt (w:=wr) HGS.out (by rw [HNOW.out];decide) HW.out.rd (HX0.out▸HP6.out) HROW.out.rd)
   clear HR5 HC5 HO5 HK5 HX5 HX6 HX7 HC6 HO6 HR6 HP6 HK6 HC7 HO7 HR7 HK7 HX8 y0 y1 y2 y3 f0 f1 f2 f3
   go_wp2_with fail
   exact ⟨⟨_,_,_,HROW,HLP⟩,HRM.out⟩
  go_simp
  refine (HSUB.out x4 Wd HN4.out HG4.out HR5.out).mono ?_
  rintro e w5 ⟨hk5,x5,t5,cs5,rfl,hx5,hr5,hp5⟩
  have hoz:w.heap.size<Wd.heap.size:=HO5.out.lt
  have hcz:gb<Wd.heap.size:=HC5.out.lt
  have HX6:=hid (GX.keepR (X:=fun k=>k<w.heap.size+1\/k=gb) (Or.inl (by omega)) hk5 HX5.out)
  have HX7:=hid (hx5.mono (Y:=fun k=>k<w.heap.size+1\/k=gb) (fun k _ h=>show k<Wd.heap.size by omega))
  have HC6:=hid (HC5.out.keepR hk5 (by omega))
  have HO6:=hid (HO5.out.keepR hk5 (by omega))
  have HR6:=hid hr5
  have HP6:=hid hp5
  have HK6:=hid (HK5.out.trans hk5)
  obtain ⟨q5,m5,z5,b5,l5,c5,rfl⟩:=hx5.four
  replace y0:=HC6.out.cell (j:=0) (by simp)
  replace y1:=HC6.out.cell (j:=1) (by simp)
  replace y2:=HC6.out.cell (j:=2) (by simp)
  replace y3:=HC6.out.cell (j:=3) (by simp)
  simp only [gE0,gE1] at y0 y1 y2 y3
  clear hk5 hx5 hr5 hp5
  refine kK hK trivial (fun hH=>?_)
  clear hK K
  refine rD [0] ?_
  refine AllReadyH.cons rfl (fun K hK=>?_) AllReadyH.nil
  go_simp
  refine kK hK trivial (fun hH=>?_)
  clear hK K
  refine rD [3] ?_
  refine AllReadyH.cons rfl (fun K hK=>?_) AllReadyH.nil
  go_simp
  refine (rfTwo_walk (fun k=>k<w.heap.size+1\/k=gb) 10 t t5 [.int .u8 q1,.int .i64 m1,.string z1,.slice b1 l2 c2] [.int .u8 q5,.int .i64 m5,.string z5,.slice b5 l5 c5] w5 (fun k h=>by have:=HC6.out.lt;have:=HO6.out.lt;omega) HX6.out HX7.out).mono ?_
  rintro e w6 ⟨hb6,cs6,rfl,hx6⟩
  have HC7:=hid (Arr.below HC6.out hb6 HC6.out.lt)
  have HO7:=hid (Arr.below HO6.out hb6 HO6.out.lt)
  have HR7:=hid (HR6.out.below hb6)
  have HK7:=hid (HK6.out.next hb6)
  have HX8:=hid hx6
  obtain ⟨q6,m6,z6,b6,l6,c6,rfl⟩:=hx6.four
  have f0:=HC7.out.frozen 0
  have f1:=HC7.out.frozen 1
  have f2:=HC7.out.frozen 2
  have f3:=HC7.out.frozen 3
  replace y0:=HC7.out.cell (j:=0) (by simp)
  replace y1:=HC7.out.cell (j:=1) (by simp)
  replace y2:=HC7.out.cell (j:=2) (by simp)
  replace y3:=HC7.out.cell (j:=3) (by simp)
  simp only [gE0,gE1] at y0 y1 y2 y3
  clear hb6 hx6
  refine kK hK trivial (fun hH=>?_)
  clear hK K
  refine rD [4] ?_
  refine AllReadyH.cons rfl (fun K hK=>?_) AllReadyH.nil
  go_simp
  refine kK hK trivial (fun hH=>?_)
  clear hK K
  refine wpAnyH_done (by kernel_rfl) ?_ _
  have HROW:=hid (LoopW.store (gb:=gb) HK7.out HR7.out HO7.out HC7.out HX8.out hRw hgb1)
  have HLP:=hid (loop_next (k:=10) HL.out (by rw [HNOW.out];rfl) (HX0.out▸HP6.out))
  have HRM:=hid (remR_lt (w:=wr) HGS.out (by rw [HNOW.out];decide) HW.out.rd (HX0.out▸HP6.out) HROW.out.rd)
  clear HR5 HC5 HO5 HK5 HX5 HX6 HX7 HC6 HO6 HR6 HP6 HK6 HC7 HO7 HR7 HK7 HX8 y0 y1 y2 y3 f0 f1 f2 f3
  go_wp2_with fail
  exact ⟨⟨_,_,_,HROW,HLP⟩,HRM.out⟩
 | false =>
  obtain ⟨rfl,hn⟩:=hno rfl
  have HNO:=hid hn
  have o0:=HO4.out.cell (j:=0) (by simp)
  have o1:=HO4.out.cell (j:=1) (by simp)
  have o2:=HO4.out.cell (j:=2) (by simp)
  have o3:=HO4.out.cell (j:=3) (by simp)
  simp only [gE0,gE1] at o0 o1 o2 o3
  have f0:=HO4.out.frozen 0
  have f1:=HO4.out.frozen 1
  have f2:=HO4.out.frozen 2
  have f3:=HO4.out.frozen 3
  clear hyes hno hn
  go_wp2_with fail
  obtain ⟨k1,k2,k3,k4⟩:=storeO (d0:=.int .u8 q1) (d1:=.int .i64 m1) (d2:=.string z1) (d3:=.slice b1 l2 c2) HK4.out HR4.out HO4.out (HX4.out.mono fun k _ h=>.inl h) hRw
  refine ret_guard (fn:=Tryz.f94) rfl (g:=w.heap.size) (cs:=[.int .u8 q1,.int .i64 m1,.string z1,.slice b1 l2 c2]) rfl rfl rfl k3 ?_
  exact ⟨k1,_,_,_,rfl,k4,k2,loop_end HL.out (fun st hst=>by unfold kOr;rw [if_neg (HNO.out st hst)]) (fun fu st0=>by rw [pars])⟩
theorem rf_side {R:Nat} {s:ByteArray} {N:Nat} (hs:s.size<=17000) (hsub:SubX R s N 159 .part):SubX R s N 124 .side:=by
 intro x0 w hN hg h
 have hRw:R<w.heap.size:=h.lt
 have HSUB:=hid hsub
 have HN:=hid hN
 have HG:=hid hg
 have hra:RfIs R (w.alloc (.cells #[.int .u8 0,.int .i64 0,.string ⟨#[]⟩,.slice none 0 0] 80)) s x0:=h.below ((Below.refl _ w).alloc (Nat.le_refl _) _)
 have HRA:=hid hra
 clear h hra hg hN hsub
 go_enter Tryz.func124,Tryz.ntmps124
 go_wp2_with fail
 refine (HSUB.out x0 _ HN.out HG.out HRA.out).mono ?_
 rintro e w2 ⟨hk2,x1,t1,cs,rfl,hx1,hr1,hp1⟩
 have HK2:=hid ((KeepR.of ((Below.refl w.heap.size w).alloc (Nat.le_refl _) (.cells #[.int .u8 0,.int .i64 0,.string ⟨#[]⟩,.slice none 0 0] 80))).trans hk2)
 have hgb1:w.heap.size<w2.heap.size:=by have:=hk2.size;rw [size_alloc] at this;omega
 have HA2:=hid ((Arr.new w [.int .u8 0,.int .i64 0,.string ⟨#[]⟩,.slice none 0 0] 80).keepR hk2 (by omega))
 have HL2:=hid (loop_first (kinds:=kAnd) hp1)
 have hX1:GX (fun k=>k<w.heap.size+1\/k=w2.heap.size) w2 t1 cs:=hx1.mono (fun k hk h=>show k<(w.alloc _).heap.size by rw [size_alloc];omega)
 obtain ⟨k1,n1,s1,a1,l1,c1,rfl⟩:=hx1.four
 have HRow:Hid (LoopW R s w w2.heap.size (w2.alloc (.cells #[.int .u8 k1,.int .i64 n1,.string s1,.slice a1 l1 c1] 80)) x1 t1 [.int .u8 k1,.int .i64 n1,.string s1,.slice a1 l1 c1]) :=
  ⟨hr1.below ((Below.refl _ _).alloc (Nat.le_refl _) _),HK2.out.alloc _,HA2.out.alloc _,Arr.new w2 [.int .u8 k1,.int .i64 n1,.string s1,.slice a1 l1 c1] 80,hX1.below ((Below.refl w2.heap.size w2).alloc (Nat.le_refl _) _)⟩
 clear hk2 hX1 hx1 hr1 hp1 HRA HK2 HA2
 go_wp2_with fail
 generalize w2.alloc (.cells #[.int .u8 k1,.int .i64 n1,.string s1,.slice a1 l1 c1] 80)=w3 at *
 generalize w2.heap.size=gb at *
 go_loopw [6,7] (fun _ _ wr=>∃x t cs,Hid (LoopW R s w gb wr x t cs)/\Hid (LoopX s .part kAnd x0 x t)) (fun _ _ wr=>remR R s wr)
 case atStart=>exact ⟨x1,t1,_,HRow,HL2⟩
 clear HRow HL2
 obtain ⟨x,t,cs,HW,HL⟩:=hrel
 have HIS:=hid (rfIsX R s x andS wr hs HL.out.gsx.le HW.out.rd)
 obtain ⟨b,hb⟩:∃b,(isX s andS x).1=b:=⟨_,rfl⟩
 obtain ⟨x4,hx4⟩:∃x4,(isX s andS x).2=x4:=⟨_,rfl⟩
 have hyes:b=true->∃st,x=.ok st/\st.now=andS/\x4=stepB s st.i:=fun h=>hx4▸isX_yes (hb.trans h)
 have hno:b=false->x4=x/\∀st,x=.ok st->¬st.now=andS:=fun h=>hx4▸isX_no (hb.trans h)
 rw [hb,hx4] at HIS
 clear hb hx4
 go_wp2_with fail
 refine HIS.out.mono ?_
 rintro e w4 ⟨hk4,rfl,hr4⟩
 obtain ⟨q1,m1,z1,b1,l2,c2,rfl⟩:=HW.out.gx.four
 have HR4:=hid hr4
 have HC4:=hid (HW.out.cell.keepR hk4 (by omega))
 have HO4:=hid (HW.out.out.keepR hk4 (by omega))
 have HK4:=hid (HW.out.keep.trans hk4)
 have HX4:=hid (GX.keepR (X:=fun k=>k<w.heap.size+1\/k=gb) (Or.inl (by omega)) hk4 HW.out.gx)
 clear hk4 hr4 HIS
 have y0:=HC4.out.cell (j:=0) (by simp)
 have y1:=HC4.out.cell (j:=1) (by simp)
 have y2:=HC4.out.cell (j:=2) (by simp)
 have y3:=HC4.out.cell (j:=3) (by simp)
 simp only [gE0,gE1] at y0 y1 y2 y3
 cases b with
 | true =>
  obtain ⟨st,rfl,hnow,rfl⟩:=hyes rfl
  have hgs:=HL.out.gsx st rfl
  have HGS:=hid hgs
  have HNOW:=hid hnow
  have HG4:=hid (GSX.step hgs)
  have HN4:Hid (∀st',stepB s st.i=.ok st'->s.size-st'.pos<N):=fun st' hst=>by
   have h1:=(step_gs hgs.le hst).2
   have h2:=hgs.pos
   cases x0 with
   | error b=>cases (show Except.ok st=Except.error b from HL.out)
   | ok st0 =>
    obtain ⟨_,_,_,h3,_⟩:=HL.out
    have h4:=HN.out st0 rfl
    omega
  generalize hx4:stepB s st.i=x4 at *
  have HX0:=hid hx4
  clear hx4 hyes hno hgs hnow
  go_wp2_with fail
  refine wp_region_held_drew (S:=fun _=>True) (by kernel_rfl) trivial (fun hH=>?_)
  have HR5:=hid (HR4.out.below (Below.refl w4.heap.size w4).drew)
  have HC5:=hid (Arr.drew HC4.out)
  have HO5:=hid (Arr.drew HO4.out)
  have HK5:=hid (KeepR.drew HK4.out)
  have HX5:=hid (HX4.out.below (Below.refl w4.heap.size w4).drew)
  clear HR4 HC4 HO4 HK4 HX4
  replace y0:=HC5.out.cell (j:=0) (by simp)
  replace y1:=HC5.out.cell (j:=1) (by simp)
  replace y2:=HC5.out.cell (j:=2) (by simp)
  replace y3:=HC5.out.cell (j:=3) (by simp)
  simp only [gE0,gE1] at y0 y1 y2 y3
  generalize w4.drew=Wd at *
  refine tK (i:=1) (oi:=⟨some 9,.move (.tmp 0),153,"ref.go:164",#[],none⟩) (v:=.pointer (some ⟨R,0,none⟩)) (Or.inl ⟨by rfl,fun W hS=>by go_simp⟩) hH ?_
  refine rD [0,2] ?_
  refine AllReadyH.cons rfl (fun K hK=>?_) (AllReadyH.cons rfl (fun K hK=>?_) AllReadyH.nil)
  ·go_simp
   refine kK hK trivial (fun hH=>?_)
   clear hK K
   refine rD [2] ?_
   refine AllReadyH.cons rfl (fun K hK=>?_) AllReadyH.nil
   go_simp
   refine (HSUB.out x4 Wd HN4.out HG4.out HR5.out).mono ?_
   rintro e w5 ⟨hk5,x5,t5,cs5,rfl,hx5,hr5,hp5⟩
   have hoz:w.heap.size<Wd.heap.size:=HO5.out.lt
   have hcz:gb<Wd.heap.size:=HC5.out.lt
   have HX6:=hid (GX.keepR (X:=fun k=>k<w.heap.size+1\/k=gb) (Or.inl (by omega)) hk5 HX5.out)
   have HX7:=hid (hx5.mono (Y:=fun k=>k<w.heap.size+1\/k=gb) (fun k _ h=>show k<Wd.heap.size by omega))
   have HC6:=hid (HC5.out.keepR hk5 (by omega))
   have HO6:=hid (HO5.out.keepR hk5 (by omega))
   have HR6:=hid hr5
   have HP6:=hid hp5
   have HK6:=hid (HK5.out.trans hk5)
   obtain ⟨q5,m5,z5,b5,l5,c5,rfl⟩:=hx5.four
   replace y0:=HC6.out.cell (j:=0) (by simp)
   replace y1:=HC6.out.cell (j:=1) (by simp)
   replace y2:=HC6.out.cell (j:=2) (by simp)
   replace y3:=HC6.out.cell (j:=3) (by simp)
   simp only [gE0,gE1] at y0 y1 y2 y3
   clear hk5 hx5 hr5 hp5
   refine kK hK trivial (fun hH=>?_)
   clear hK K
   refine rD [3] ?_
   refine AllReadyH.cons rfl (fun K hK=>?_) AllReadyH.nil
   go_simp
   refine (rfTwo_walk (fun k=>k<w.heap.size+1\/k=gb) 9 t t5 [.int .u8 q1,.int .i64 m1,.string z1,.slice b1 l2 c2] [.int .u8 q5,.int .i64 m5,.string z5,.slice b5 l5 c5] w5 (fun k h=>by have:=HC6.out.lt;have:=HO6.out.lt;omega) HX6.out HX7.out).mono ?_
   rintro e w6 ⟨hb6,cs6,rfl,hx6⟩
   have HC7:=hid (Arr.below HC6.out hb6 HC6.out.lt)
   have HO7:=hid (Arr.below HO6.out hb6 HO6.out.lt)
   have HR7:=hid (HR6.out.below hb6)
   have HK7:=hid (HK6.out.next hb6)
   have HX8:=hid hx6
   obtain ⟨q6,m6,z6,b6,l6,c6,rfl⟩:=hx6.four
   have f0:=HC7.out.frozen 0
   have f1:=HC7.out.frozen 1
   have f2:=HC7.out.frozen 2
   have f3:=HC7.out.frozen 3
   replace y0:=HC7.out.cell (j:=0) (by simp)
   replace y1:=HC7.out.cell (j:=1) (by simp)
   replace y2:=HC7.out.cell (j:=2) (by simp)
   replace y3:=HC7.out.cell (j:=3) (by simp)
   simp only [gE0,gE1] at y0 y1 y2 y3
   clear hb6 hx6
   refine kK hK trivial (fun hH=>?_)
   clear hK K
   refine rD [4] ?_
   refine AllReadyH.cons rfl (fun K hK=>?_) AllReadyH.nil
   go_simp
   refine kK hK trivial (fun hH=>?_)
   clear hK K
   refine wpAnyH_done (by kernel_rfl) ?_ _
   have HROW:=hid (LoopW.store (gb:=gb) HK7.out HR7.out HO7.out HC7.out HX8.out hRw hgb1)
   have HLP:=hid (loop_next (k:=9) HL.out (by rw [HNOW.out];rfl) (HX0.out▸HP6.out))
   have HRM:=hid (remR_lt (w:=wr) HGS.out (by rw [HNOW.out];decide) HW.out.rd (HX0.out▸HP6.out) HROW.out.rd)
   clear HR5 HC5 HO5 HK5 HX5 HX6 HX7 HC6 HO6 HR6 HP6 HK6 HC7 HO7 HR7 HK7 HX8 y0 y1 y2 y3 f0 f1 f2 f3
   go_wp2_with fail
   exact ⟨⟨_,_,_,HROW,HLP⟩,HRM.out⟩
  go_simp
  refine (HSUB.out x4 Wd HN4.out HG4.out HR5.out).mono ?_
  rintro e w5 ⟨hk5,x5,t5,cs5,rfl,hx5,hr5,hp5⟩
  have hoz:w.heap.size<Wd.heap.size:=HO5.out.lt
  have hcz:gb<Wd.heap.size:=HC5.out.lt
  have HX6:=hid (GX.keepR (X:=fun k=>k<w.heap.size+1\/k=gb) (Or.inl (by omega)) hk5 HX5.out)
  have HX7:=hid (hx5.mono (Y:=fun k=>k<w.heap.size+1\/k=gb) (fun k _ h=>show k<Wd.heap.size by omega))
  have HC6:=hid (HC5.out.keepR hk5 (by omega))
  have HO6:=hid (HO5.out.keepR hk5 (by omega))
  have HR6:=hid hr5
  have HP6:=hid hp5
  have HK6:=hid (HK5.out.trans hk5)
  obtain ⟨q5,m5,z5,b5,l5,c5,rfl⟩:=hx5.four
  replace y0:=HC6.out.cell (j:=0) (by simp)
  replace y1:=HC6.out.cell (j:=1) (by simp)
  replace y2:=HC6.out.cell (j:=2) (by simp)
  replace y3:=HC6.out.cell (j:=3) (by simp)
  simp only [gE0,gE1] at y0 y1 y2 y3
  clear hk5 hx5 hr5 hp5
  refine kK hK trivial (fun hH=>?_)
  clear hK K
  refine rD [0] ?_
  refine AllReadyH.cons rfl (fun K hK=>?_) AllReadyH.nil
  go_simp
  refine kK hK trivial (fun hH=>?_)
  clear hK K
  refine rD [3] ?_
  refine AllReadyH.cons rfl (fun K hK=>?_) AllReadyH.nil
  go_simp
  refine (rfTwo_walk (fun k=>k<w.heap.size+1\/k=gb) 9 t t5 [.int .u8 q1,.int .i64 m1,.string z1,.slice b1 l2 c2] [.int .u8 q5,.int .i64 m5,.string z5,.slice b5 l5 c5] w5 (fun k h=>by have:=HC6.out.lt;have:=HO6.out.lt;omega) HX6.out HX7.out).mono ?_
  rintro e w6 ⟨hb6,cs6,rfl,hx6⟩
  have HC7:=hid (Arr.below HC6.out hb6 HC6.out.lt)
  have HO7:=hid (Arr.below HO6.out hb6 HO6.out.lt)
  have HR7:=hid (HR6.out.below hb6)
  have HK7:=hid (HK6.out.next hb6)
  have HX8:=hid hx6
  obtain ⟨q6,m6,z6,b6,l6,c6,rfl⟩:=hx6.four
  have f0:=HC7.out.frozen 0
  have f1:=HC7.out.frozen 1
  have f2:=HC7.out.frozen 2
  have f3:=HC7.out.frozen 3
  replace y0:=HC7.out.cell (j:=0) (by simp)
  replace y1:=HC7.out.cell (j:=1) (by simp)
  replace y2:=HC7.out.cell (j:=2) (by simp)
  replace y3:=HC7.out.cell (j:=3) (by simp)
  simp only [gE0,gE1] at y0 y1 y2 y3
  clear hb6 hx6
  refine kK hK trivial (fun hH=>?_)
  clear hK K
  refine rD [4] ?_
  refine AllReadyH.cons rfl (fun K hK=>?_) AllReadyH.nil
  go_simp
  refine kK hK trivial (fun hH=>?_)
  clear hK K
  refine wpAnyH_done (by kernel_rfl) ?_ _
  have HROW:=hid (LoopW.store (gb:=gb) HK7.out HR7.out HO7.out HC7.out HX8.out hRw hgb1)
  have HLP:=hid (loop_next (k:=9) HL.out (by rw [HNOW.out];rfl) (HX0.out▸HP6.out))
  have HRM:=hid (remR_lt (w:=wr) HGS.out (by rw [HNOW.out];decide) HW.out.rd (HX0.out▸HP6.out) HROW.out.rd)
  clear HR5 HC5 HO5 HK5 HX5 HX6 HX7 HC6 HO6 HR6 HP6 HK6 HC7 HO7 HR7 HK7 HX8 y0 y1 y2 y3 f0 f1 f2 f3
  go_wp2_with fail
  exact ⟨⟨_,_,_,HROW,HLP⟩,HRM.out⟩
 | false =>
  obtain ⟨rfl,hn⟩:=hno rfl
  have HNO:=hid hn
  have o0:=HO4.out.cell (j:=0) (by simp)
  have o1:=HO4.out.cell (j:=1) (by simp)
  have o2:=HO4.out.cell (j:=2) (by simp)
  have o3:=HO4.out.cell (j:=3) (by simp)
  simp only [gE0,gE1] at o0 o1 o2 o3
  have f0:=HO4.out.frozen 0
  have f1:=HO4.out.frozen 1
  have f2:=HO4.out.frozen 2
  have f3:=HO4.out.frozen 3
  clear hyes hno hn
  go_wp2_with fail
  obtain ⟨k1,k2,k3,k4⟩:=storeO (d0:=.int .u8 q1) (d1:=.int .i64 m1) (d2:=.string z1) (d3:=.slice b1 l2 c2) HK4.out HR4.out HO4.out (HX4.out.mono fun k _ h=>.inl h) hRw
  refine ret_guard (fn:=Tryz.f124) rfl (g:=w.heap.size) (cs:=[.int .u8 q1,.int .i64 m1,.string z1,.slice b1 l2 c2]) rfl rfl rfl k3 ?_
  exact ⟨k1,_,_,_,rfl,k4,k2,loop_end HL.out (fun st hst=>by unfold kAnd;rw [if_neg (HNO.out st hst)]) (fun fu st0=>by rw [pars])⟩
theorem rf_product {R:Nat} {s:ByteArray} {N:Nat} (hs:s.size<=17000) (hsub:SubX R s N 198 .atom):SubX R s N 192 .product:=by
 intro x0 w hN hg h
 have hRw:R<w.heap.size:=h.lt
 have HSUB:=hid hsub
 have HN:=hid hN
 have HG:=hid hg
 have hra:RfIs R (w.alloc (.cells #[.int .u8 0,.int .i64 0,.string ⟨#[]⟩,.slice none 0 0] 80)) s x0:=h.below ((Below.refl _ w).alloc (Nat.le_refl _) _)
 have HRA:=hid hra
 clear h hra hg hN hsub
 go_enter Tryz.func192,Tryz.ntmps192
 go_wp2_with fail
 refine (HSUB.out x0 _ HN.out HG.out HRA.out).mono ?_
 rintro e w2 ⟨hk2,x1,t1,cs,rfl,hx1,hr1,hp1⟩
 have HK2:=hid ((KeepR.of ((Below.refl w.heap.size w).alloc (Nat.le_refl _) (.cells #[.int .u8 0,.int .i64 0,.string ⟨#[]⟩,.slice none 0 0] 80))).trans hk2)
 have hgb1:w.heap.size<w2.heap.size:=by have:=hk2.size;rw [size_alloc] at this;omega
 have HA2:=hid ((Arr.new w [.int .u8 0,.int .i64 0,.string ⟨#[]⟩,.slice none 0 0] 80).keepR hk2 (by omega))
 have HL2:=hid (loop_first (kinds:=kMul) hp1)
 have hX1:GX (fun k=>k<w.heap.size+1\/k=w2.heap.size) w2 t1 cs:=hx1.mono (fun k hk h=>show k<(w.alloc _).heap.size by rw [size_alloc];omega)
 obtain ⟨k1,n1,s1,a1,l1,c1,rfl⟩:=hx1.four
 have HRow:Hid (LoopW R s w w2.heap.size (w2.alloc (.cells #[.int .u8 k1,.int .i64 n1,.string s1,.slice a1 l1 c1] 80)) x1 t1 [.int .u8 k1,.int .i64 n1,.string s1,.slice a1 l1 c1]) :=
  ⟨hr1.below ((Below.refl _ _).alloc (Nat.le_refl _) _),HK2.out.alloc _,HA2.out.alloc _,Arr.new w2 [.int .u8 k1,.int .i64 n1,.string s1,.slice a1 l1 c1] 80,hX1.below ((Below.refl w2.heap.size w2).alloc (Nat.le_refl _) _)⟩
 clear hk2 hX1 hx1 hr1 hp1 HRA HK2 HA2
 go_wp2_with fail
 generalize w2.alloc (.cells #[.int .u8 k1,.int .i64 n1,.string s1,.slice a1 l1 c1] 80)=w3 at *
 generalize w2.heap.size=gb at *
 go_loopw [6,7] (fun _ _ wr=>∃x t cs,Hid (LoopW R s w gb wr x t cs)/\Hid (LoopX s .atom kMul x0 x t)) (fun _ _ wr=>remR R s wr)
 case atStart=>exact ⟨x1,t1,_,HRow,HL2⟩
 clear HRow HL2
 obtain ⟨x,t,cs,HW,HL⟩:=hrel
 have HIS:=hid (rfIsX R s x mulS wr hs HL.out.gsx.le HW.out.rd)
 obtain ⟨b,hb⟩:∃b,(isX s mulS x).1=b:=⟨_,rfl⟩
 obtain ⟨x4,hx4⟩:∃x4,(isX s mulS x).2=x4:=⟨_,rfl⟩
 have hyes:b=true->∃st,x=.ok st/\st.now=mulS/\x4=stepB s st.i:=fun h=>hx4▸isX_yes (hb.trans h)
 have hno:b=false->x4=x/\∀st,x=.ok st->¬st.now=mulS:=fun h=>hx4▸isX_no (hb.trans h)
 rw [hb,hx4] at HIS
 clear hb hx4
 go_wp2_with fail
 refine HIS.out.mono ?_
 rintro e w4 ⟨hk4,rfl,hr4⟩
 obtain ⟨q1,m1,z1,b1,l2,c2,rfl⟩:=HW.out.gx.four
 have HR4:=hid hr4
 have HC4:=hid (HW.out.cell.keepR hk4 (by omega))
 have HO4:=hid (HW.out.out.keepR hk4 (by omega))
 have HK4:=hid (HW.out.keep.trans hk4)
 have HX4:=hid (GX.keepR (X:=fun k=>k<w.heap.size+1\/k=gb) (Or.inl (by omega)) hk4 HW.out.gx)
 clear hk4 hr4 HIS
 have y0:=HC4.out.cell (j:=0) (by simp)
 have y1:=HC4.out.cell (j:=1) (by simp)
 have y2:=HC4.out.cell (j:=2) (by simp)
 have y3:=HC4.out.cell (j:=3) (by simp)
 simp only [gE0,gE1] at y0 y1 y2 y3
 cases b with
 | true =>
  obtain ⟨st,rfl,hnow,rfl⟩:=hyes rfl
  have hgs:=HL.out.gsx st rfl
  have HGS:=hid hgs
  have HNOW:=hid hnow
  have HG4:=hid (GSX.step hgs)
  have HN4:Hid (∀st',stepB s st.i=.ok st'->s.size-st'.pos<N):=fun st' hst=>by
   have h1:=(step_gs hgs.le hst).2
   have h2:=hgs.pos
   cases x0 with
   | error b=>cases (show Except.ok st=Except.error b from HL.out)
   | ok st0 =>
    obtain ⟨_,_,_,h3,_⟩:=HL.out
    have h4:=HN.out st0 rfl
    omega
  generalize hx4:stepB s st.i=x4 at *
  have HX0:=hid hx4
  clear hx4 hyes hno hgs hnow
  go_wp2_with fail
  refine wp_region_held_drew (S:=fun _=>True) (by kernel_rfl) trivial (fun hH=>?_)
  have HR5:=hid (HR4.out.below (Below.refl w4.heap.size w4).drew)
  have HC5:=hid (Arr.drew HC4.out)
  have HO5:=hid (Arr.drew HO4.out)
  have HK5:=hid (KeepR.drew HK4.out)
  have HX5:=hid (HX4.out.below (Below.refl w4.heap.size w4).drew)
  clear HR4 HC4 HO4 HK4 HX4
  replace y0:=HC5.out.cell (j:=0) (by simp)
  replace y1:=HC5.out.cell (j:=1) (by simp)
  replace y2:=HC5.out.cell (j:=2) (by simp)
  replace y3:=HC5.out.cell (j:=3) (by simp)
  simp only [gE0,gE1] at y0 y1 y2 y3
  generalize w4.drew=Wd at *
  refine tK (i:=1) (oi:=⟨some 9,.move (.tmp 0),153,"ref.go:200",#[],none⟩) (v:=.pointer (some ⟨R,0,none⟩)) (Or.inl ⟨by rfl,fun W hS=>by go_simp⟩) hH ?_
  refine rD [0,2] ?_
  refine AllReadyH.cons rfl (fun K hK=>?_) (AllReadyH.cons rfl (fun K hK=>?_) AllReadyH.nil)
  ·go_simp
   refine kK hK trivial (fun hH=>?_)
   clear hK K
   refine rD [2] ?_
   refine AllReadyH.cons rfl (fun K hK=>?_) AllReadyH.nil
   go_simp
   refine (HSUB.out x4 Wd HN4.out HG4.out HR5.out).mono ?_
   rintro e w5 ⟨hk5,x5,t5,cs5,rfl,hx5,hr5,hp5⟩
   have hoz:w.heap.size<Wd.heap.size:=HO5.out.lt
   have hcz:gb<Wd.heap.size:=HC5.out.lt
   have HX6:=hid (GX.keepR (X:=fun k=>k<w.heap.size+1\/k=gb) (Or.inl (by omega)) hk5 HX5.out)
   have HX7:=hid (hx5.mono (Y:=fun k=>k<w.heap.size+1\/k=gb) (fun k _ h=>show k<Wd.heap.size by omega))
   have HC6:=hid (HC5.out.keepR hk5 (by omega))
   have HO6:=hid (HO5.out.keepR hk5 (by omega))
   have HR6:=hid hr5
   have HP6:=hid hp5
   have HK6:=hid (HK5.out.trans hk5)
   obtain ⟨q5,m5,z5,b5,l5,c5,rfl⟩:=hx5.four
   replace y0:=HC6.out.cell (j:=0) (by simp)
   replace y1:=HC6.out.cell (j:=1) (by simp)
   replace y2:=HC6.out.cell (j:=2) (by simp)
   replace y3:=HC6.out.cell (j:=3) (by simp)
   simp only [gE0,gE1] at y0 y1 y2 y3
   clear hk5 hx5 hr5 hp5
   refine kK hK trivial (fun hH=>?_)
   clear hK K
   refine rD [3] ?_
   refine AllReadyH.cons rfl (fun K hK=>?_) AllReadyH.nil
   go_simp
   refine (rfTwo_walk (fun k=>k<w.heap.size+1\/k=gb) 15 t t5 [.int .u8 q1,.int .i64 m1,.string z1,.slice b1 l2 c2] [.int .u8 q5,.int .i64 m5,.string z5,.slice b5 l5 c5] w5 (fun k h=>by have:=HC6.out.lt;have:=HO6.out.lt;omega) HX6.out HX7.out).mono ?_
   rintro e w6 ⟨hb6,cs6,rfl,hx6⟩
   have HC7:=hid (Arr.below HC6.out hb6 HC6.out.lt)
   have HO7:=hid (Arr.below HO6.out hb6 HO6.out.lt)
   have HR7:=hid (HR6.out.below hb6)
   have HK7:=hid (HK6.out.next hb6)
   have HX8:=hid hx6
   obtain ⟨q6,m6,z6,b6,l6,c6,rfl⟩:=hx6.four
   have f0:=HC7.out.frozen 0
   have f1:=HC7.out.frozen 1
   have f2:=HC7.out.frozen 2
   have f3:=HC7.out.frozen 3
   replace y0:=HC7.out.cell (j:=0) (by simp)
   replace y1:=HC7.out.cell (j:=1) (by simp)
   replace y2:=HC7.out.cell (j:=2) (by simp)
   replace y3:=HC7.out.cell (j:=3) (by simp)
   simp only [gE0,gE1] at y0 y1 y2 y3
   clear hb6 hx6
   refine kK hK trivial (fun hH=>?_)
   clear hK K
   refine rD [4] ?_
   refine AllReadyH.cons rfl (fun K hK=>?_) AllReadyH.nil
   go_simp
   refine kK hK trivial (fun hH=>?_)
   clear hK K
   refine wpAnyH_done (by kernel_rfl) ?_ _
   have HROW:=hid (LoopW.store (gb:=gb) HK7.out HR7.out HO7.out HC7.out HX8.out hRw hgb1)
   have HLP:=hid (loop_next (k:=15) HL.out (by rw [HNOW.out];rfl) (HX0.out▸HP6.out))
   have HRM:=hid (remR_lt (w:=wr) HGS.out (by rw [HNOW.out];decide) HW.out.rd (HX0.out▸HP6.out) HROW.out.rd)
   clear HR5 HC5 HO5 HK5 HX5 HX6 HX7 HC6 HO6 HR6 HP6 HK6 HC7 HO7 HR7 HK7 HX8 y0 y1 y2 y3 f0 f1 f2 f3
   go_wp2_with fail
   exact ⟨⟨_,_,_,HROW,HLP⟩,HRM.out⟩
  go_simp
  refine (HSUB.out x4 Wd HN4.out HG4.out HR5.out).mono ?_
  rintro e w5 ⟨hk5,x5,t5,cs5,rfl,hx5,hr5,hp5⟩
  have hoz:w.heap.size<Wd.heap.size:=HO5.out.lt
  have hcz:gb<Wd.heap.size:=HC5.out.lt
  have HX6:=hid (GX.keepR (X:=fun k=>k<w.heap.size+1\/k=gb) (Or.inl (by omega)) hk5 HX5.out)
  have HX7:=hid (hx5.mono (Y:=fun k=>k<w.heap.size+1\/k=gb) (fun k _ h=>show k<Wd.heap.size by omega))
  have HC6:=hid (HC5.out.keepR hk5 (by omega))
  have HO6:=hid (HO5.out.keepR hk5 (by omega))
  have HR6:=hid hr5
  have HP6:=hid hp5
  have HK6:=hid (HK5.out.trans hk5)
  obtain ⟨q5,m5,z5,b5,l5,c5,rfl⟩:=hx5.four
  replace y0:=HC6.out.cell (j:=0) (by simp)
  replace y1:=HC6.out.cell (j:=1) (by simp)
  replace y2:=HC6.out.cell (j:=2) (by simp)
  replace y3:=HC6.out.cell (j:=3) (by simp)
  simp only [gE0,gE1] at y0 y1 y2 y3
  clear hk5 hx5 hr5 hp5
  refine kK hK trivial (fun hH=>?_)
  clear hK K
  refine rD [0] ?_
  refine AllReadyH.cons rfl (fun K hK=>?_) AllReadyH.nil
  go_simp
  refine kK hK trivial (fun hH=>?_)
  clear hK K
  refine rD [3] ?_
  refine AllReadyH.cons rfl (fun K hK=>?_) AllReadyH.nil
  go_simp
  refine (rfTwo_walk (fun k=>k<w.heap.size+1\/k=gb) 15 t t5 [.int .u8 q1,.int .i64 m1,.string z1,.slice b1 l2 c2] [.int .u8 q5,.int .i64 m5,.string z5,.slice b5 l5 c5] w5 (fun k h=>by have:=HC6.out.lt;have:=HO6.out.lt;omega) HX6.out HX7.out).mono ?_
  rintro e w6 ⟨hb6,cs6,rfl,hx6⟩
  have HC7:=hid (Arr.below HC6.out hb6 HC6.out.lt)
  have HO7:=hid (Arr.below HO6.out hb6 HO6.out.lt)
  have HR7:=hid (HR6.out.below hb6)
  have HK7:=hid (HK6.out.next hb6)
  have HX8:=hid hx6
  obtain ⟨q6,m6,z6,b6,l6,c6,rfl⟩:=hx6.four
  have f0:=HC7.out.frozen 0
  have f1:=HC7.out.frozen 1
  have f2:=HC7.out.frozen 2
  have f3:=HC7.out.frozen 3
  replace y0:=HC7.out.cell (j:=0) (by simp)
  replace y1:=HC7.out.cell (j:=1) (by simp)
  replace y2:=HC7.out.cell (j:=2) (by simp)
  replace y3:=HC7.out.cell (j:=3) (by simp)
  simp only [gE0,gE1] at y0 y1 y2 y3
  clear hb6 hx6
  refine kK hK trivial (fun hH=>?_)
  clear hK K
  refine rD [4] ?_
  refine AllReadyH.cons rfl (fun K hK=>?_) AllReadyH.nil
  go_simp
  refine kK hK trivial (fun hH=>?_)
  clear hK K
  refine wpAnyH_done (by kernel_rfl) ?_ _
  have HROW:=hid (LoopW.store (gb:=gb) HK7.out HR7.out HO7.out HC7.out HX8.out hRw hgb1)
  have HLP:=hid (loop_next (k:=15) HL.out (by rw [HNOW.out];rfl) (HX0.out▸HP6.out))
  have HRM:=hid (remR_lt (w:=wr) HGS.out (by rw [HNOW.out];decide) HW.out.rd (HX0.out▸HP6.out) HROW.out.rd)
  clear HR5 HC5 HO5 HK5 HX5 HX6 HX7 HC6 HO6 HR6 HP6 HK6 HC7 HO7 HR7 HK7 HX8 y0 y1 y2 y3 f0 f1 f2 f3
  go_wp2_with fail
  exact ⟨⟨_,_,_,HROW,HLP⟩,HRM.out⟩
 | false =>
  obtain ⟨rfl,hn⟩:=hno rfl
  have HNO:=hid hn
  have o0:=HO4.out.cell (j:=0) (by simp)
  have o1:=HO4.out.cell (j:=1) (by simp)
  have o2:=HO4.out.cell (j:=2) (by simp)
  have o3:=HO4.out.cell (j:=3) (by simp)
  simp only [gE0,gE1] at o0 o1 o2 o3
  have f0:=HO4.out.frozen 0
  have f1:=HO4.out.frozen 1
  have f2:=HO4.out.frozen 2
  have f3:=HO4.out.frozen 3
  clear hyes hno hn
  go_wp2_with fail
  obtain ⟨k1,k2,k3,k4⟩:=storeO (d0:=.int .u8 q1) (d1:=.int .i64 m1) (d2:=.string z1) (d3:=.slice b1 l2 c2) HK4.out HR4.out HO4.out (HX4.out.mono fun k _ h=>.inl h) hRw
  refine ret_guard (fn:=Tryz.f192) rfl (g:=w.heap.size) (cs:=[.int .u8 q1,.int .i64 m1,.string z1,.slice b1 l2 c2]) rfl rfl rfl k3 ?_
  exact ⟨k1,_,_,_,rfl,k4,k2,loop_end HL.out (fun st hst=>by unfold kMul;rw [if_neg (HNO.out st hst)]) (fun fu st0=>by rw [pars])⟩
end Go.Proofs.YtfbbkmdhnkmonaaGreatDoor
