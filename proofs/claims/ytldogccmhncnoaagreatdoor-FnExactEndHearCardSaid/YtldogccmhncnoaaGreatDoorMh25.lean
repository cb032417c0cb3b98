/- A part of the proof: contracts of functions, or plain facts on which these lean. -/
import Derived.Test.YtldogccmhncnoaaGreatDoorMh23
import Derived.Test.YtldogccmhncnoaaGreatDoorMh24
namespace Go.Proofs.YtldogccmhncnoaaGreatDoor
open Go
set_option linter.unusedVariables false
set_option linter.unusedSimpArgs false
set_option maxRecDepth 100000
set_option maxHeartbeats 16000000

section
open Go
structure PtrAt (S:List Blk) (p b c:Nat) (e:En):Prop where
 var:S[p]?=some (.cells 0 (enC (.heap b e.strs.length) (.heap c e.wait.length) e))
 at_:EnAt S b c e
theorem PtrAt.nes {S:List Blk} {p b c:Nat} {e:En} (h:PtrAt S p b c e):b≠p∧c≠p∧b≠c∧p < S.length∧b < S.length∧c < S.length :=
 ⟨cells_ne h.at_.1 h.var (by decide),cells_ne h.at_.2 h.var (by decide),h.at_.ne,lt_of_some h.var,lt_of_some h.at_.1,lt_of_some h.at_.2⟩
structure PtrTo (S:List Blk) (p b c:Nat) (e:En) (b' c':Nat) (S':List Blk):Prop where
 at_:PtrAt S' p b' c' e
 hb:b'=b∨S.length≤b'
 hc:c'=c∨S.length≤c'
 upd:Upd [p,b,c] S S'
theorem PtrAt.app {S:List Blk} {p b c:Nat} {e:En} (h:PtrAt S p b c e) (X:List Blk):PtrAt (S++X) p b c e:=⟨by rw [List.getElem?_append_left (lt_of_some h.var)]; exact h.var,h.at_.app X⟩
theorem PtrTo.stay {S X:List Blk} {p b c:Nat} {e:En} (h:PtrAt S p b c e):PtrTo S p b c e b c (S++X):=⟨h.app X,.inl rfl,.inl rfl,(Upd.refl _ _).app X⟩
theorem PtrTo.trans {S S1 S2:List Blk} {p b c b1 c1 b2 c2:Nat} {e1 e2:En} (h:PtrTo S p b c e1 b1 c1 S1) (k:PtrTo S1 p b1 c1 e2 b2 c2 S2):PtrTo S p b c e2 b2 c2 S2:=by
 have hl:=h.upd.1
 have hb:=h.hb; have hc:=h.hc
 refine ⟨k.at_,?_,?_,h.upd.then_ k.upd fun j hj hm=>?_⟩
 ·rcases k.hb with e | e <;> omega
 ·rcases k.hc with e | e <;> omega
 ·simp only [List.mem_cons,List.not_mem_nil,or_false] at hm ⊢
  omega
theorem PtrTo.app {S X:List Blk} {p b c:Nat} {e:En} {b' c':Nat} {S':List Blk} (h:PtrTo (S++X) p b c e b' c' S'):PtrTo S p b c e b' c' S':=by
 have hb:=h.hb; have hc:=h.hc
 rw [List.length_append] at hb hc
 exact ⟨h.at_,by omega,by omega,((Upd.refl [p,b,c] S).app X).then_ h.upd (fun j hj hm=>hm)⟩
theorem PtrTo.mk' {S:List Blk} {p b c:Nat} {e:En} (b' c':Nat) {S':List Blk} (hv:S'[p]?=some (.cells 0 (enC (.heap b' e.strs.length) (.heap c' e.wait.length) e))) (h1:S'[b']?=some (.cells 12 (strsC e.strs))) (h2:S'[c']?=some (.cells 4 (frmsC e.wait)))
  (hb:b'=b∨S.length≤b') (hc:c'=c∨S.length≤c') (hu:Upd [p,b,c] S S'):PtrTo S p b c e b' c' S':=⟨⟨hv,h1,h2⟩,hb,hc,hu⟩
def atP (l:List St) (b:Nat) (id:Int):V:=match atM l id with
 | some k=>.ptr b (k * 12)
 | none=>.nilp
theorem newStream_ok (id:Int) (S:List Blk):VCall Tryz.prog 128 [.int .i64 id] S fun r S'=>r=stV (newSt id)∧S'=S:=by
 refine VCall.en hD Tryz.func128 Tryz.ntmps128 Tryz.results128 ?_
 simp -implicitDefEqProofs (disch:=omega) only [push_cast,simprocAttr,↓gd]
 exact finE (stV_cl _ (newSt id)) rfl
theorem stream_ok {e:En} (he:EnB e) {S:List Blk} {p b c:Nat} (h:PtrAt S p b c e) (id:Int):VCall Tryz.prog 94 [.ptr p 0,.int .i64 id] S fun r S'=>r=atP e.strs b id∧S'=S:=by
 have hv:=h.var
 have hb:=h.at_.1
 have hpl:=lt_of_some hv
 have hbl:=lt_of_some hb
 have hel:=he.len
 have hlen:=strsC_len e.strs
 refine VCall.en hDe Tryz.func94 Tryz.ntmps94 Tryz.results94 ?_
 simp -implicitDefEqProofs (disch:=omega) only [push_cast,simprocAttr,hv,↓gd]
 refine wpV_loop (fun m t S1=>∃i:Nat,m=e.strs.length - i∧i≤e.strs.length∧(∀j,j < i→(e.strs.getD j st0).id≠id)∧t 0=.ptr p 0∧t 1=.int .i64 id∧t 10=.int .i64 e.strs.length∧t 11=.int .i64 i∧S1=S) e.strs.length
  ⟨0,by omega,by omega,by omega,rfl,rfl,rfl,rfl,rfl⟩ ?_
 rintro m t S1 ⟨i,rfl,hi,hno,h0,h1,h10,h11,rfl⟩
 refine wpV_of0 hDe ?_
 simp -implicitDefEqProofs (disch:=omega) only [push_cast,simprocAttr,h0,h1,h10,h11,hv,↓gd]
 refine ⟨fun h=>?_,fun h=>?_⟩
 ·have hil:i < e.strs.length:=by omega
  have hid:=strsC_id hil
  by_cases hq:(e.strs.getD i st0).id=id
  ·simp -implicitDefEqProofs (disch:=omega) only [push_cast,simprocAttr,h0,h1,h10,h11,hv,hb,hid,hq,↓gd]
   repeat refine And.intro (by omega) ?_
   exact fin0 (by rw [atP,atM_at hil hno hq])
  ·simp -implicitDefEqProofs (disch:=omega) only [push_cast,simprocAttr,h0,h1,h10,h11,hv,hb,hid,hq,↓gd]
   repeat refine And.intro (by omega) ?_
   refine ⟨e.strs.length - (i+1),by omega,i+1,rfl,by omega,fun j hj=>?_,by simp⟩
   by_cases e1:j=i
   ·rw [e1]; exact hq
   ·exact hno j (by omega)
 ·exact fin0 (by rw [atP,atM_no (fun j hj=>hno j (by omega))])
end
section
open Go
def Res (own:Bool) (S:List Blk) (vo vi:V) (b c:Nat) (e:En) (S':List Blk):Prop :=
 if own then ∃po pi ls,vo=.heap po e.out.length∧vi=.heap pi e.inn.length∧EnO S po pi b c ls e S'
 else vo=.rows none (e.out.map fV)∧vi=.rows none (e.inn.map fV)∧EnNew S e b c S'
def RRes (own:Bool) (S:List Blk) (e:En) (v:V) (S':List Blk):Prop:=∃vo vi b c,v=xV vo vi b c e∧Res own S vo vi b c e S'
section
variable {ow:Bool} {S S' X:List Blk} {vo vi:V} {b c:Nat} {e:En}
theorem Res.cases (h:Res ow S vo vi b c e S'):(ow=true∧∃po pi ls,vo=.heap po e.out.length∧vi=.heap pi e.inn.length∧EnO S po pi b c ls e S')∨(ow=false∧vo=.rows none (e.out.map fV)∧vi=.rows none (e.inn.map fV)∧EnNew S e b c S'):=by
 unfold Res at h
 cases ow
 ·exact .inr ⟨rfl,by simpa using h⟩
 ·exact .inl ⟨rfl,by simpa using h⟩
theorem Res.mkO (h:∃po pi ls,vo=.heap po e.out.length∧vi=.heap pi e.inn.length∧EnO S po pi b c ls e S'):Res true S vo vi b c e S':=by unfold Res; simpa using h
theorem Res.mkR (h:EnNew S e b c S'):Res false S (.rows none (e.out.map fV)) (.rows none (e.inn.map fV)) b c e S':=by unfold Res; simpa using h
theorem Res.one (h:Res ow S vo vi b c e S'):V.one vo=true∧V.one vi=true:=by
 rcases h.cases with ⟨_,_,_,_,rfl,rfl,_⟩ | ⟨_,rfl,rfl,_⟩ <;> exact ⟨rfl,rfl⟩
theorem Res.er (h:Res ow S vo vi b c e S'):eraseC vo=vo∧eraseC vi=vi:=by
 rcases h.cases with ⟨_,_,_,_,rfl,rfl,_⟩ | ⟨_,rfl,rfl,_⟩ <;> exact ⟨rfl,rfl⟩
theorem EnO.to {po pi:Nat} {ls:List XS} (h:EnO S po pi b c ls e S') {S2:List Blk} (hk:∀(p n:Nat) (cs:List V),n≠0→S'[p]?=some (.cells n cs)→S2[p]?=some (.cells n cs)) (hu:Upd [] S S2):EnO S po pi b c ls e S2 :=
 ⟨h.strs,hk _ _ _ (by decide) h.kb,hk _ _ _ (by decide) h.kc,hk _ _ _ (by decide) h.out,hk _ _ _ (by decide) h.inn,h.own.to (fun p cs=>hk p 3 cs (by decide)),h.lt,h.lo,h.hb,h.hc,hu⟩
theorem EnO.upd2 {po pi:Nat} {ls:List XS} (h:EnO S po pi b c ls e S') {S2:List Blk} (hu:Upd [] S' S2):EnO S po pi b c ls e S2:=h.to (fun p n cs _ hp=>hu.get hp (by simp)) (h.upd.trans hu)
theorem Res.upd (h:Res ow S vo vi b c e S'):Upd [] S S':=by
 rcases h.cases with ⟨_,_,_,_,_,_,h⟩ | ⟨_,_,_,h⟩
 ·exact h.upd
 ·exact h.upd
theorem Res.setVar (h:Res ow S vo vi b c e S') {j:Nat} {cs:List V} (B:Blk) (hj:S'[j]?=some (.cells 0 cs)) (hS:S.length≤j):Res ow S vo vi b c e (S'.set j B):=by
 have hk:∀(p n:Nat) (ds:List V),n≠0→S'[p]?=some (.cells n ds)→(S'.set j B)[p]?=some (.cells n ds):=fun p n ds hn hp=>by
  have:j≠p:=by rintro rfl; rw [hj] at hp; cases hp; exact hn rfl
  rw [List.getElem?_set_ne this]; exact hp
 rcases h.cases with ⟨rfl,po,pi,ls,h1,h2,h⟩ | ⟨rfl,rfl,rfl,g⟩
 ·exact .mkO ⟨po,pi,ls,h1,h2,h.to hk (h.upd.set _ (.inl hS))⟩
 ·exact .mkR ⟨⟨hk _ _ _ (by decide) g.at_.1,hk _ _ _ (by decide) g.at_.2⟩,g.hb,g.hc,g.upd.set _ (.inl hS)⟩
theorem Res.appR (h:Res ow S vo vi b c e S') (Y:List Blk):Res ow S vo vi b c e (S'++Y):=by
 rcases h.cases with ⟨rfl,po,pi,ls,h1,h2,h⟩ | ⟨rfl,rfl,rfl,g⟩
 ·exact .mkO ⟨po,pi,ls,h1,h2,h.upd2 ((Upd.refl _ _).app Y)⟩
 ·exact .mkR (g.appR Y)
theorem Res.of {T:List Blk} (h:Res ow T vo vi b c e S') (hu:Upd [] S T):Res ow S vo vi b c e S':=by
 have hl:=hu.1
 rcases h.cases with ⟨rfl,po,pi,ls,h1,h2,h⟩ | ⟨rfl,rfl,rfl,g⟩
 ·exact .mkO ⟨po,pi,ls,h1,h2,⟨h.strs,h.kb,h.kc,h.out,h.inn,h.own,h.lt,fun p hp=>Nat.le_trans hl (h.lo p hp),Nat.le_trans hl h.hb,Nat.le_trans hl h.hc,hu.trans h.upd⟩⟩
 ·exact .mkR ⟨g.at_,Nat.le_trans hl g.hb,Nat.le_trans hl g.hc,hu.trans g.upd⟩
end
theorem eclone_R (own:Bool) {e:En} (he:EnB e) {S:List Blk} {vo vi:V} {b c:Nat} {ls:List XS} (h:EnX S vo vi b c ls e):VCall Tryz.prog 42 [xV vo vi b c e] S fun r S'=>RRes own S e r S':=by
 cases own
 ·exact (eclone_X he h).mono fun r S' ⟨b',c',hr,hn⟩=>⟨_,_,b',c',hr,.mkR hn⟩
 ·exact (eclone_O he h).mono fun r S' ⟨po,pi,b',c',ls',hr,hn⟩=>⟨_,_,b',c',hr,.mkO ⟨po,pi,ls',rfl,rfl,hn⟩⟩
theorem RRes.zero (own:Bool) {S X:List Blk}:∃r S2,Wk S (.agg zE) (S++X) r S2∧RRes own S en0 r S2:=by
 cases own
 ·obtain ⟨r,S2,h1,b,c,rfl,h2⟩:=RNew.zero (S:=S) (X:=X)
  exact ⟨_,S2,h1,_,_,b,c,rfl,.mkR h2⟩
 ·obtain ⟨Z,hZ⟩:∃Z,Z=S++X:=⟨_,rfl⟩
  rw [←hZ]
  have n1:Wk S (.agg zE) Z (.agg (zE.set 1 (.heap Z.length 0))) (Z++[.cells 3 []]):=Wk.nh 3 (NH.aggAt (i:=1) rfl)
  have n2:Wk S (.agg (zE.set 1 (.heap Z.length 0))) (Z++[.cells 3 []]) (.agg ((zE.set 1 (.heap Z.length 0)).set 3 (.heap (Z.length+1) 0))) (Z++[.cells 3 [],.cells 3 []]):=by
   have:=Wk.nh (S0:=S) (S:=Z++[.cells 3 []]) 3 (NH.aggAt (n:=(Z++[Blk.cells 3 []]).length) (cs:=zE.set 1 (.heap Z.length 0)) (i:=3) rfl)
   simpa using this
  have n3:Wk S (.agg ((zE.set 1 (.heap Z.length 0)).set 3 (.heap (Z.length+1) 0))) (Z++[.cells 3 [],.cells 3 []]) (.agg (((zE.set 1 (.heap Z.length 0)).set 3 (.heap (Z.length+1) 0)).set 6 (.heap (Z.length+2) 0))) (Z++[.cells 3 [],.cells 3 [],.cells 12 []]):=by
   have:=Wk.nh (S0:=S) (S:=Z++[.cells 3 [],.cells 3 []]) 12 (NH.aggAt (n:=(Z++[Blk.cells 3 [],.cells 3 []]).length) (cs:=(zE.set 1 (.heap Z.length 0)).set 3 (.heap (Z.length+1) 0)) (i:=6) rfl)
   simpa using this
  have n4:Wk S (.agg (((zE.set 1 (.heap Z.length 0)).set 3 (.heap (Z.length+1) 0)).set 6 (.heap (Z.length+2) 0))) (Z++[.cells 3 [],.cells 3 [],.cells 12 []]) (.agg ((((zE.set 1 (.heap Z.length 0)).set 3 (.heap (Z.length+1) 0)).set 6 (.heap (Z.length+2) 0)).set 9 (.heap (Z.length+3) 0))) (Z++[.cells 3 [],.cells 3 [],.cells 12 [],.cells 4 []]):=by
   have:=Wk.nh (S0:=S) (S:=Z++[.cells 3 [],.cells 3 [],.cells 12 []]) 4 (NH.aggAt (n:=(Z++[Blk.cells 3 [],.cells 3 [],.cells 12 []]).length) (cs:=((zE.set 1 (.heap Z.length 0)).set 3 (.heap (Z.length+1) 0)).set 6 (.heap (Z.length+2) 0)) (i:=9) rfl)
   simpa using this
  have hl:S.length≤Z.length:=by rw [hZ,List.length_append]; omega
  have hu:Upd [] S Z:=by rw [hZ]; exact (Upd.refl _ _).app _
  refine ⟨_,_,((n1.trans n2).trans n3).trans n4,_,_,Z.length+2,Z.length+3,rfl,.mkO ⟨Z.length,Z.length+1,[],rfl,rfl,⟨rfl,?_,?_,?_,?_,(fun x hx=>by cases hx),by simp [fb],fun p hp=>by simp [fb] at hp; omega,by omega,by omega,hu.app _⟩⟩⟩
  ·rw [app_get]; rfl
  ·rw [app_get]; rfl
  ·rw [app_get0]; rfl
  ·rw [app_get]; rfl
end
section
open Go
theorem small_cut:∀n:Nat,n < 100→10≤n→((([48,48,48,49,48,50,48,51,48,52,48,53,48,54,48,55,48,56,48,57,49,48,49,49,49,50,49,51,49,52,49,53,49,54,49,55,49,56,49,57,50,48,50,49,50,50,50,51,50,52,50,53,50,54,50,55,50,56,50,57,51,48,51,49,51,50,51,51,51,52,51,53,51,54,51,55,51,56,51,57,52,48,52,49,52,50,52,51,52,52,52,53,52,54,52,55,52,56,52,57,53,48,53,49,53,50,53,51,53,52,53,53,53,54,53,55,53,56,53,57,54,48,54,49,54,50,54,51,54,52,54,53,54,54,54,55,54,56,54,57,55,48,55,49,55,50,55,51,55,52,55,53,55,54,55,55,55,56,55,57,56,48,56,49,56,50,56,51,56,52,56,53,56,54,56,55,56,56,56,57,57,48,57,49,57,50,57,51,57,52,57,53,57,54,57,55,57,56,57,57]:List UInt8).take (2 * n+2)).drop (2 * n))=[by8 (48+n / 10),by8 (48+n % 10)]:=by decide
theorem dig_cut:∀n:Nat,n < 10→((([48,49,50,51,52,53,54,55,56,57,97,98,99,100,101,102,103,104,105,106,107,108,109,110,111,112,113,114,115,116,117,118,119,120,121,122]:List UInt8).take (n+1)).drop n)=[by8 (48+n)]:=by decide
theorem small_ok (n:Nat) (hn:n < 100) (S:List Blk):VCall Tryz.prog 184 [.int .i64 n] S fun r S'=>r=.str (decM n)∧S'=S:=by
 refine VCall.en hD Tryz.func184 Tryz.ntmps184 Tryz.results184 ?_
 by_cases h:n < 10
 ·have h':(n:Int) < 10:=by omega
  have e:((n:Int)+1).toNat=n+1:=by omega
  simp -implicitDefEqProofs (disch:=omega) only [push_cast,simprocAttr,h',e,↓gd]
  repeat refine And.intro (by omega) ?_
  exact fin0 (by rw [decM_small h]; exact congrArg V.str (dig_cut n h))
 ·have h':¬(n:Int) < 10:=by omega
  have e1:((n:Int) * 2).toNat=2 * n:=by omega
  have e2:((n:Int) * 2+2).toNat=2 * n+2:=by omega
  have hd:decM n=[by8 (48+n / 10),by8 (48+n % 10)]:=by rw [decM_big h,decM_small (by omega)]; rfl
  simp -implicitDefEqProofs (disch:=omega) only [push_cast,simprocAttr,h',e1,e2,↓gd]
  refine ⟨by omega,by omega,?_,fin0 ?_⟩
  ·show (n:Int) * 2+2≤((200:Nat):Int)
   omega
  ·rw [hd]
   exact congrArg V.str (small_cut n hn (by omega))
theorem FormatInt_ok (n:Nat) (hn:n < 100) (S:List Blk):VCall Tryz.prog 168 [.int .i64 n,.int .i64 10] S fun r S'=>r=.str (decM n)∧S'=S:=by
 have h0:(0:Int)≤n:=by omega
 have h1:(n:Int) < 100:=by omega
 refine VCall.en hD Tryz.func168 Tryz.ntmps168 Tryz.results168 ?_
 simp -implicitDefEqProofs (disch:=omega) only [push_cast,simprocAttr,h0,h1,↓gd]
 refine (small_ok n hn _).to ?_
 simp -implicitDefEqProofs (disch:=omega) only [push_cast,simprocAttr,↓gd]
 exact fin0 rfl
theorem iItoa_ok (n:Nat) (hn:n < 100) (S:List Blk):VCall Tryz.prog 153 [.int .i64 n] S fun r S'=>r=.str (decM n)∧S'=S:=by
 refine VCall.en hD Tryz.func153 Tryz.ntmps153 Tryz.results153 ?_
 simp -implicitDefEqProofs (disch:=omega) only [push_cast,simprocAttr,↓gd]
 refine (FormatInt_ok n hn _).to ?_
 simp -implicitDefEqProofs (disch:=omega) only [push_cast,simprocAttr,↓gd]
 exact fin0 rfl
theorem Itoa_ok (n:Nat) (hn:n < 100) (S:List Blk):VCall Tryz.prog 135 [.int .i64 n] S fun r S'=>r=.str (decM n)∧S'=S:=by
 refine VCall.en hD Tryz.func135 Tryz.ntmps135 Tryz.results135 ?_
 simp -implicitDefEqProofs (disch:=omega) only [push_cast,simprocAttr,↓gd]
 refine (iItoa_ok n hn _).to ?_
 simp -implicitDefEqProofs (disch:=omega) only [push_cast,simprocAttr,↓gd]
 exact fin0 rfl
theorem get_ok (h:List Fd) (hl:FdsB h) (name:List UInt8) (S:List Blk):VCall Tryz.prog 151 [.rows none (h.map fV),.str name] S fun r S'=>r=.tup [.str (getM h name).1,.bool (getM h name).2]∧S'=S:=by
 have hlen:=hl.1
 have hcl:∀a b,Cl S.length (.tup [.str a,.bool b]):=fun a b=>Cl.two (.str _) (.bool _)
 refine VCall.en hD Tryz.func151 Tryz.ntmps151 Tryz.results151 ?_
 simp -implicitDefEqProofs (disch:=omega) only [push_cast,simprocAttr,↓gd]
 refine wpV_loop (fun m t S'=>∃(i:Nat) (X:List Blk),m=h.length - i∧i≤h.length∧(∀j,j < i→(h.getD j fd0).name≠name)∧t 1=.str name∧t 8=.rows none (h.map fV)∧t 9=.int .i64 h.length∧t 10=.int .i64 i∧S'=S++X) h.length ⟨0,[],by omega,by omega,by omega,rfl,rfl,rfl,rfl,by simp⟩ ?_
 rintro m t S' ⟨i,X,rfl,hi,hno,h1,h8,h9,h10,rfl⟩
 refine wpV_of0 hD ?_
 simp -implicitDefEqProofs (disch:=omega) only [push_cast,simprocAttr,h1,h8,h9,h10,↓gd]
 refine ⟨fun q=>?_,fun q=>?_⟩
 ·have hil:i < h.length:=by omega
  have hgd:=getD_fV hil
  have hat:=getM_at (name:=name) hil hno
  generalize hf:h.getD i fd0=f at hgd hat
  by_cases hq:f.name=name
  ·have hm:=hat hq
   have hq':=eq_true hq
   simp -implicitDefEqProofs (disch:=omega) only [push_cast,simprocAttr,h1,h8,h9,h10,hgd,hq',↓gd]
   repeat refine And.intro (by omega) ?_
   exact fin1 (hcl _ _) (by rw [hm])
  ·simp -implicitDefEqProofs (disch:=omega) only [push_cast,simprocAttr,h1,h8,h9,h10,hgd,hq,↓gd]
   repeat refine And.intro (by omega) ?_
   refine ⟨h.length - (i+1),by omega,i+1,_,rfl,by omega,fun j hj=>?_,by simp,rfl⟩
   by_cases e1:j=i
   ·rw [e1,hf]; exact hq
   ·exact hno j (by omega)
 ·exact fin1 (hcl _ _) (by rw [getM_no (fun j hj=>hno j (by omega))])
end
section
open Go
theorem hDu:TypesOk Tryz.prog (wrOf D [5]):=wrOk hD _
theorem u8s_len (s:List UInt8):(u8s s).length=s.length:=by simp [u8s]
theorem u8s_get {s:List UInt8} {i:Nat} (h:i < s.length):(u8s s)[i]?=some (.int .u8 ((s.getD i 0).toNat:Int)):=by
 simp [u8s,List.getElem?_eq_getElem h,List.getD]
theorem u8s_all (s:List UInt8):(u8s s).all isU8=true:=by simp [u8s,isU8]
theorem u8s_back (s:List UInt8):(u8s s).map byteOfV=s:=by
 simp [u8s,byteOfV,Function.comp_def]
theorem u8s_set {s:List UInt8} {i:Nat} {x:UInt8}:splice (u8s s) i [.int .u8 (x.toNat:Int)]=u8s (s.set i x):=by
 rw [splice_one]; simp [u8s,List.map_set]
theorem up_mix_get {w:List UInt8} {i:Nat} (h:i < w.length):(upM (w.take i)++w.drop i).getD i 0=w.getD i 0:=by
 have hl:(upM (w.take i)).length=i:=by rw [upM_len]; simp; omega
 rw [List.getD_eq_getElem?_getD,List.getElem?_append_right (by omega),hl,Nat.sub_self,List.getElem?_drop,Nat.add_zero,←List.getD_eq_getElem?_getD]
theorem up_mix_set {w:List UInt8} {i:Nat} (h:i < w.length):(upM (w.take i)++w.drop i).set i (if 97≤(w.getD i 0).toNat∧(w.getD i 0).toNat < 122 then by8 ((w.getD i 0).toNat+1) else w.getD i 0)=upM (w.take (i+1))++w.drop (i+1):=by
 have hl:(upM (w.take i)).length=i:=by rw [upM_len]; simp; omega
 rw [List.set_append_right _ _ (by omega),hl,Nat.sub_self,upM_take h,List.append_assoc]
 congr 1
 rw [List.drop_eq_getElem_cons h]
 rfl
theorem lt_of_get {α:Type} {l:List α} {i:Nat} {x:α} (h:l[i]?=some x):i < l.length:=by
 rcases Nat.lt_or_ge i l.length with g | g
 ·exact g
 ·rw [List.getElem?_eq_none g] at h; cases h
theorem EndAnswer_ok (path text:List UInt8) (ht:text.length < 100) (S:List Blk):VCall Tryz.prog 152 [.str path,.str text] S fun r S'=>r=.tup [.str (answerM path text).1,.str (answerM path text).2]∧S'=S:=by
 refine VCall.ex hDu (fun _=>false) (fun id=>if id=12 then [4,4,4,4] else []) Tryz.func152 Tryz.ntmps152 Tryz.results152 ?_
 by_cases h1:path=sEcho
 ·have h1':(path=[47,101,99,104,111])=True:=eq_true h1
  simp -implicitDefEqProofs (disch:=omega) only [push_cast,simprocAttr,h1',↓gd]
  exact fin0 (by rw [answerM,if_pos h1])
 ·have h1':¬path=[47,101,99,104,111]:=h1
  by_cases h2:path=sUp
  ·have h2':(path=[47,117,112])=True:=eq_true h2
   simp -implicitDefEqProofs (disch:=omega) only [push_cast,simprocAttr,h1',h2',↓gd]
   refine wpV_loop (fun m t S'=>∃i:Nat,m=text.length - i∧i≤text.length∧t 6=.heap S.length text.length∧t 17=.heap S.length text.length∧t 18=.int .i64 text.length∧t 19=.int .i64 i∧S'=S++[.cells (1000000 * (5+1)+1) (u8s (upM (text.take i)++text.drop i))]) text.length
    ⟨0,by omega,by omega,rfl,rfl,rfl,rfl,by simp [upM]⟩ ?_
   rintro m t S' ⟨i,rfl,hi,h6,h17,h18,h19,rfl⟩
   refine wpV_of hDu (fun _=>false) (fun id=>if id=12 then [4,4,4,4] else []) (by kernel_rfl) ?_
   have hml:(upM (text.take i)++text.drop i).length=text.length:=by rw [List.length_append,upM_len]; simp; omega
   have hcl:=u8s_len (upM (text.take i)++text.drop i)
   simp -implicitDefEqProofs (disch:=omega) only [push_cast,simprocAttr,h6,h17,h18,h19,↓gd]
   refine ⟨fun q=>?_,fun q=>?_⟩
   ·have hil:i < text.length:=by omega
    have hg:=u8s_get (s:=upM (text.take i)++text.drop i) (i:=i) (by omega)
    have hset:=up_mix_set hil
    rw [up_mix_get hil] at hg
    have hb:=UInt8.toNat_lt (text.getD i 0)
    have hsp:=fun x:UInt8=>u8s_set (s:=upM (text.take i)++text.drop i) (i:=i) (x:=x)
    generalize text.getD i 0=x at hg hset hb
    generalize u8s (upM (text.take i)++text.drop i)=cs at hg hcl hsp
    have same:∀{l:List UInt8},(upM (text.take i)++text.drop i).set i x=l→cs=u8s l:=fun {l} q=>by
     rw [←q,←hsp,splice_one]
     apply List.ext_getElem?
     intro j
     rw [List.getElem?_set]
     by_cases e:i=j
     ·subst e
      rw [if_pos rfl,if_pos (lt_of_get hg),hg]
     ·rw [if_neg e]
    by_cases c1:97≤x.toNat
    ·by_cases c2:x.toNat < 122
     ·rw [if_pos ⟨c1,c2⟩] at hset
      have q1:(97:Int)≤(x.toNat:Int):=by omega
      have q2:(x.toNat:Int)≤121:=by omega
      simp -implicitDefEqProofs (disch:=omega) only [push_cast,simprocAttr,h6,h17,h18,h19,Nat.mul_one,hg,q1,q2,↓gd]
      repeat refine And.intro (by omega) ?_
      have e1:((by8 (x.toNat+1)).toNat:Int)=(x.toNat:Int)+1:=by
       rw [by8,UInt8.toNat_ofNat']
       omega
      have e2:=hsp (by8 (x.toNat+1))
      rw [e1,hset] at e2
      exact ⟨text.length - (i+1),by omega,i+1,rfl,by omega,by simp,by rw [e2]⟩
     ·rw [if_neg (by omega)] at hset
      have q1:(97:Int)≤(x.toNat:Int):=by omega
      have q2:¬(x.toNat:Int)≤121:=by omega
      simp -implicitDefEqProofs (disch:=omega) only [push_cast,simprocAttr,h6,h17,h18,h19,Nat.mul_one,hg,q1,q2,↓gd]
      repeat refine And.intro (by omega) ?_
      exact ⟨text.length - (i+1),by omega,i+1,rfl,by omega,by simp,by rw [same hset]⟩
    ·rw [if_neg (by omega)] at hset
     have q1:¬(97:Int)≤(x.toNat:Int):=by omega
     simp -implicitDefEqProofs (disch:=omega) only [push_cast,simprocAttr,h6,h17,h18,h19,Nat.mul_one,hg,q1,↓gd]
     repeat refine And.intro (by omega) ?_
     exact ⟨text.length - (i+1),by omega,i+1,rfl,by omega,by simp,by rw [same hset]⟩
   ·have:i=text.length:=by omega
    subst this
    refine ⟨by omega,?_,?_⟩
    ·rw [List.take_of_length_le (by omega)]; exact u8s_all _
    ·rw [List.take_of_length_le (by omega),List.take_of_length_le (by omega),List.drop_of_length_le (by omega),List.append_nil,u8s_back]
     exact fin1 (Cl.two (.str _) (.str _)) (by rw [answerM,if_neg h1,if_pos h2])
  ·have h2':¬path=[47,117,112]:=h2
   by_cases h3:path=sLen
   ·have h3':(path=[47,108,101,110])=True:=eq_true h3
    simp -implicitDefEqProofs (disch:=omega) only [push_cast,simprocAttr,h1',h2',h3',↓gd]
    refine (Itoa_ok _ (by omega) _).to ?_
    simp -implicitDefEqProofs (disch:=omega) only [push_cast,simprocAttr,↓gd]
    exact fin0 (by rw [answerM,if_neg h1,if_neg h2,if_pos h3])
   ·have h3':¬path=[47,108,101,110]:=h3
    simp -implicitDefEqProofs (disch:=omega) only [push_cast,simprocAttr,h1',h2',h3',↓gd]
    refine fin0 ?_
    rw [answerM,if_neg h1,if_neg h2,if_neg h3]
end
section
open Go
theorem put2 {l:List St} {k c:Nat} {v:V} {s s':St} (hk:k < l.length) (hc:c < 12) (h:strC s'=(strC s).set c v):splice (strsC (l.set k s)) (k * 12+c) [v]=strsC (l.set k s'):=by
 have:=strsC_put (l:=l.set k s) (i:=k) (c:=c) (v:=v) (s:=s') (by rw [List.length_set]; exact hk) hc (by rw [getD_set st0 s hk,if_pos rfl]; exact h)
 rw [this,List.set_set]
theorem len2 (l:List St) (k:Nat) (s:St):(strsC (l.set k s)).length=l.length * 12:=by rw [strsC_len,List.length_set]
theorem get2 {l:List St} {k c:Nat} {s:St} (hk:k < l.length) (hc:c < 12):(strsC (l.set k s))[k * 12+c]?=(strC s)[c]?:=by
 have:=strsC_get (l:=l.set k s) (i:=k) (by rw [List.length_set]; exact hk) (c:=c) hc
 rwa [getD_set st0 s hk,if_pos rfl] at this
theorem heard_ok {e:En} {S:List Blk} {p b c:Nat} (h:PtrAt S p b c e) {k:Nat} (hk:k < e.strs.length) (hg:headOk (stAt e k).got=true) (ht:(stAt e k).text.length < 100) :
  VCall Tryz.prog 130 [.ptr p 0,.ptr b (k * 12)] S fun r S'=>r=.tup []∧PtrTo S p b c (setSt e k (doneM e.ans (stAt e k))) b c S':=by
 obtain ⟨ans,out,outM,inn,innM,came,strs,snd,rm,wait,bad⟩:=e
 obtain ⟨n1,n2,n3,n4,n5,n6⟩:=h.nes
 have hv:S[p]?=some (.cells 0 (enC (.heap b strs.length) (.heap c wait.length) ⟨ans,out,outM,inn,innM,came,strs,snd,rm,wait,bad⟩)):=h.var
 have hb:S[b]?=some (.cells 12 (strsC strs)):=h.at_.1
 have hc:S[c]?=some (.cells 4 (frmsC wait)):=h.at_.2
 have hk:k < strs.length:=hk
 have hlen:=strsC_len strs
 have hput:=fun (l:List St) (hkl:k < l.length) c (hc12:c < 12) v s' (q:strC s'=(strC (l.getD k st0)).set c v)=>strsC_put (l:=l) (i:=k) (c:=c) (v:=v) (s:=s') hkl hc12 q
 have hset2:∀(l:List St) a d,k < l.length→strsC ((l.set k a).set k d)=strsC (l.set k d):=fun l a d _=>by rw [List.set_set]
 have hgs:∀a,(strs.set k a).getD k st0=a:=fun a=>by rw [getD_set st0 a hk,if_pos rfl]
 have hls:∀a,k < (strs.set k a).length:=fun a=>by rw [List.length_set]; exact hk
 simp only [stAt] at hg ht
 simp only [setSt,stAt]
 have g1:=strsC_get hk (c:=1) (by decide)
 generalize hs:strs.getD k st0=s at hg ht g1 ⊢
 obtain ⟨sid,sst,shd,ssay,sbg,ssd,ssent,sgot,stx,shrd,ssnd,srm⟩:=s
 simp only at hg ht
 have p9:=hput strs hk 9 (by decide) (.bool true) ⟨sid,sst,shd,ssay,sbg,ssd,ssent,sgot,stx,true,ssnd,srm⟩ (by rw [hs]; rfl)
 have l9:(strsC (strs.set k ⟨sid,sst,shd,ssay,sbg,ssd,ssent,sgot,stx,true,ssnd,srm⟩)).length=strs.length * 12:=by rw [strsC_len,List.length_set]
 have gets:∀c,c < 12→(strsC (strs.set k ⟨sid,sst,shd,ssay,sbg,ssd,ssent,sgot,stx,true,ssnd,srm⟩))[k * 12+c]?=(strC ⟨sid,sst,shd,ssay,sbg,ssd,ssent,sgot,stx,true,ssnd,srm⟩)[c]?:=fun c q=>by
  have:=strsC_get (hls ⟨sid,sst,shd,ssay,sbg,ssd,ssent,sgot,stx,true,ssnd,srm⟩) (c:=c) q
  rwa [hgs] at this
 have q1:=gets 1 (by decide)
 have q7:=gets 7 (by decide)
 have q8:=gets 8 (by decide)
 simp only [strC,List.getElem?_cons_succ,List.getElem?_cons_zero] at q1 q7 q8
 have fin:∀X s',∃r S2,Wk S (V.tup []) (S.set b (.cells 12 (strsC (strs.set k s')))++X) r S2∧r=.tup []∧PtrTo S p b c ⟨ans,out,outM,inn,innM,came,strs.set k s',snd,rm,wait,bad⟩ b c S2:=fun X s'=>by
  refine ⟨_,_,Wk.refl _ _ _,rfl,PtrTo.mk' b c ?_ ?_ ?_ (.inl rfl) (.inl rfl) (((Upd.refl _ _).set _ (.inr (by simp))).app _)⟩
  ·simp -implicitDefEqProofs (disch:=omega) only [push_cast,simprocAttr,hv,↓gd]
  ·simp -implicitDefEqProofs (disch:=omega) only [push_cast,simprocAttr,↓gd]
  ·simp -implicitDefEqProofs (disch:=omega) only [push_cast,simprocAttr,hc,↓gd]
 have fin0':∀s',∃r S2,Wk S (V.tup []) (S.set b (.cells 12 (strsC (strs.set k s')))) r S2∧r=.tup []∧PtrTo S p b c ⟨ans,out,outM,inn,innM,came,strs.set k s',snd,rm,wait,bad⟩ b c S2:=fun s'=>by
  have:=fin [] s'
  rwa [List.append_nil] at this
 refine VCall.en hDe Tryz.func130 Tryz.ntmps130 Tryz.results130 ?_
 simp -implicitDefEqProofs (disch:=omega) only [push_cast,simprocAttr,hb,p9,q1,↓gd]
 by_cases hst:sst=1
 ·subst hst
  cases ans
  ·have r1:=put2 (v:=.int .i64 2) (s:=⟨sid,1,shd,ssay,sbg,ssd,ssent,sgot,stx,true,ssnd,srm⟩) (s':=⟨sid,2,shd,ssay,sbg,ssd,ssent,sgot,stx,true,ssnd,srm⟩) hk (c:=1) (by decide) rfl
   simp -implicitDefEqProofs (disch:=omega) only [push_cast,simprocAttr,hb,hv,p9,q1,r1,len2,↓gd]
   repeat refine And.intro (by omega) ?_
   have e:doneM false ⟨sid,1,shd,ssay,sbg,ssd,ssent,sgot,stx,shrd,ssnd,srm⟩=⟨sid,2,shd,ssay,sbg,ssd,ssent,sgot,stx,true,ssnd,srm⟩:=by simp [doneM]
   rw [e]
   exact fin0' ⟨sid,2,shd,ssay,sbg,ssd,ssent,sgot,stx,true,ssnd,srm⟩
  ·have hgl:=headOk_b hg
   simp -implicitDefEqProofs (disch:=omega) only [push_cast,simprocAttr,hb,hv,p9,q1,q7,len2,↓gd]
   repeat refine And.intro (by omega) ?_
   refine (get_ok sgot hgl sPath _).to ?_
   simp -implicitDefEqProofs (disch:=omega) only [push_cast,simprocAttr,hb,hv,q8,↓gd]
   refine (EndAnswer_ok (getM sgot sPath).1 stx ht _).to ?_
   generalize hA:answerM (getM sgot sPath).1 stx=A
   obtain ⟨A,B⟩:=A
   have r2:=put2 (v:=.rows none [.agg [.str sStatus,.str A,.bool false],.agg [.str sKind,.str sText,.bool false]]) (s:=⟨sid,1,shd,ssay,sbg,ssd,ssent,sgot,stx,true,ssnd,srm⟩) (s':=⟨sid,1,[⟨sStatus,A,false⟩,⟨sKind,sText,false⟩],ssay,sbg,ssd,ssent,sgot,stx,true,ssnd,srm⟩) hk (c:=2) (by decide) rfl
   have r3:=put2 (v:=.str B) (s:=⟨sid,1,[⟨sStatus,A,false⟩,⟨sKind,sText,false⟩],ssay,sbg,ssd,ssent,sgot,stx,true,ssnd,srm⟩) (s':=⟨sid,1,[⟨sStatus,A,false⟩,⟨sKind,sText,false⟩],B,sbg,ssd,ssent,sgot,stx,true,ssnd,srm⟩) hk (c:=3) (by decide) rfl
   have r4:=put2 (v:=.bool false) (s:=⟨sid,1,[⟨sStatus,A,false⟩,⟨sKind,sText,false⟩],B,sbg,ssd,ssent,sgot,stx,true,ssnd,srm⟩) (s':=⟨sid,1,[⟨sStatus,A,false⟩,⟨sKind,sText,false⟩],B,false,ssd,ssent,sgot,stx,true,ssnd,srm⟩) hk (c:=4) (by decide) rfl
   have r5:=put2 (v:=.bool false) (s:=⟨sid,1,[⟨sStatus,A,false⟩,⟨sKind,sText,false⟩],B,false,ssd,ssent,sgot,stx,true,ssnd,srm⟩) (s':=⟨sid,1,[⟨sStatus,A,false⟩,⟨sKind,sText,false⟩],B,false,false,ssent,sgot,stx,true,ssnd,srm⟩) hk (c:=5) (by decide) rfl
   have r6:=put2 (v:=.int .i64 0) (s:=⟨sid,1,[⟨sStatus,A,false⟩,⟨sKind,sText,false⟩],B,false,false,ssent,sgot,stx,true,ssnd,srm⟩) (s':=⟨sid,1,[⟨sStatus,A,false⟩,⟨sKind,sText,false⟩],B,false,false,0,sgot,stx,true,ssnd,srm⟩) hk (c:=6) (by decide) rfl
   have cs:([.agg [.str [58,115,116,97,116,117,115],.str A,.bool false],.agg [.str [107,105,110,100],.str [116,101,120,116],.bool false]]:List V)=[.agg [.str sStatus,.str A,.bool false],.agg [.str sKind,.str sText,.bool false]]:=rfl
   simp -implicitDefEqProofs (disch:=omega) only [push_cast,simprocAttr,hb,hv,cs,r2,r3,r4,r5,r6,len2,↓gd]
   repeat refine And.intro (by omega) ?_
   have e:doneM true ⟨sid,1,shd,ssay,sbg,ssd,ssent,sgot,stx,shrd,ssnd,srm⟩=⟨sid,1,[⟨sStatus,A,false⟩,⟨sKind,sText,false⟩],B,false,false,0,sgot,stx,true,ssnd,srm⟩:=by simp [doneM,askM,hA]
   rw [e]
   exact fin _ _
 ·simp -implicitDefEqProofs (disch:=omega) only [push_cast,simprocAttr,hb,p9,q1,hst,len2,↓gd]
  repeat refine And.intro (by omega) ?_
  have e:doneM ans ⟨sid,sst,shd,ssay,sbg,ssd,ssent,sgot,stx,shrd,ssnd,srm⟩=⟨sid,sst,shd,ssay,sbg,ssd,ssent,sgot,stx,true,ssnd,srm⟩:=by simp [doneM,hst]
  rw [e]
  exact fin0' _
end
section
open Go
def Heard (S:List Blk) (p b c:Nat) (E:En) (r:V) (S':List Blk):Prop:=∃(b' c':Nat) (E':En) (ok:Bool),r=.bool ok∧PtrTo S p b c E' b' c' S'∧E={ E' with bad:=!ok }
theorem Heard.still {S X:List Blk} {p b c:Nat} {e E:En} (h:PtrAt S p b c e) (hE:E={ e with bad:=true }):∃r S2,Wk S (.bool false) (S++X) r S2∧Heard S p b c E r S2 :=
 ⟨_,_,Wk.refl _ _ _,b,c,e,false,rfl,.stay h,by rw [hE]; rfl⟩
theorem hearMore_ok {N:Nat} {e:En} (hW:EnW N e) (hN:N≤1100000) (hbad:e.bad=false) {f:Fr} (hf:frameOk f=true) (hk8:f.kind=8) {S:List Blk} {p b c:Nat} (h:PtrAt S p b c e) :
  VCall Tryz.prog 93 [.ptr p 0,frV f] S fun r S'=>Heard S p b c (moreM e f) r S':=by
 have he:=hW.b hN
 have hfl:=hW.flows
 have hsts:=hW.sts
 have hfn:=(frameOk_nat hf).2.1
 obtain ⟨ans,out,outM,inn,innM,came,strs,snd,rm,wait,bad⟩:=e
 simp only at hfl hsts hbad
 subst hbad
 obtain ⟨n1,n2,n3,n4,n5,n6⟩:=h.nes
 have hv:S[p]?=some (.cells 0 (enC (.heap b strs.length) (.heap c wait.length) ⟨ans,out,outM,inn,innM,came,strs,snd,rm,wait,false⟩)):=h.var
 have hb:S[b]?=some (.cells 12 (strsC strs)):=h.at_.1
 have hc:S[c]?=some (.cells 4 (frmsC wait)):=h.at_.2
 have hlen:=strsC_len strs
 have hm8:=frameOk_more hf hk8
 obtain ⟨fk,fl,fs,fb⟩:=f
 simp only at hfn hk8
 subst hk8
 obtain ⟨x,rfl,hx1,hx2,rfl⟩:∃x:UInt8,fb=[x]∧1≤x.toNat∧x.toNat≤31∧fl=false:=hm8
 have hx0:([x]:List UInt8).getD 0 0=x:=rfl
 have emin:∀a:Int,(if a < (31:Int) then a else (31:Int))=min a 31:=fun a=>by omega
 have edec:∀a:Int,decide (a > 31)=!decide (a≤31):=fun a=>by by_cases q:a≤31 <;> simp [q] <;> omega
 refine VCall.ex hDe (fun _=>false) (fun id=>if id=7 then [10,10,10,10,10,10,10,10,10,10] else []) Tryz.func93 Tryz.ntmps93 Tryz.results93 ?_
 by_cases hs0:fs=0
 ·subst hs0
  have hm:moreM ⟨ans,out,outM,inn,innM,came,strs,snd,rm,wait,false⟩ ⟨8,false,0,[x]⟩=⟨ans,out,outM,inn,innM,came,strs,min (snd+x.toNat) 31,rm,wait,!decide (snd+x.toNat≤31)⟩:=by simp [moreM,byteAt,edec]
  rw [hm]
  simp -implicitDefEqProofs (disch:=omega) only [push_cast,simprocAttr,hv,hx0,emin,↓gd]
  refine ⟨_,_,Wk.refl _ _ _,b,c,⟨ans,out,outM,inn,innM,came,strs,min (snd+x.toNat) 31,rm,wait,false⟩,_,rfl,PtrTo.mk' b c ?_ ?_ ?_ (.inl rfl) (.inl rfl) (((Upd.refl _ _).set _ (.inr (by simp))).app _),rfl⟩
  ·simp -implicitDefEqProofs (disch:=omega) only [push_cast,simprocAttr,↓gd]
  ·simp -implicitDefEqProofs (disch:=omega) only [push_cast,simprocAttr,hb,↓gd]
  ·simp -implicitDefEqProofs (disch:=omega) only [push_cast,simprocAttr,hc,↓gd]
 ·have hgt:fs > 0:=by omega
  simp -implicitDefEqProofs (disch:=omega) only [push_cast,simprocAttr,hv,hx0,hgt,↓gd]
  refine ((stream_ok he (h.app _) fs).as rfl).to ?_
  cases ha:atM strs fs with
  | none =>
   have hap:atP strs b fs=.nilp:=by rw [atP,ha]
   have hm:moreM ⟨ans,out,outM,inn,innM,came,strs,snd,rm,wait,false⟩ ⟨8,false,fs,[x]⟩=⟨ans,out,outM,inn,innM,came,strs,snd,rm,wait,true⟩:=by rw [moreM]; simp only [ha,hs0,badM]; simp
   rw [hm]
   simp -implicitDefEqProofs (disch:=omega) only [push_cast,simprocAttr,hap,↓gd]
   exact Heard.still h rfl
  | some k =>
   obtain ⟨hk,hid⟩:=atM_some ha
   have hap:atP strs b fs=.ptr b (k * 12):=by rw [atP,ha]
   have hsf:=stOk_flow (stsOk_at hsts hk)
   have hrm:=strsC_get hk (c:=10) (by decide)
   have hput:∀v s',strC s'=(strC (strs.getD k st0)).set 10 v→splice (strsC strs) (k * 12+10) [v]=strsC (strs.set k s'):=fun v s'=>strsC_put hk (by decide)
   have hm:moreM ⟨ans,out,outM,inn,innM,came,strs,snd,rm,wait,false⟩ ⟨8,false,fs,[x]⟩=⟨ans,out,outM,inn,innM,came,strs.set k { strs.getD k st0 with send:=min ((strs.getD k st0).send+x.toNat) 31 },snd,rm,wait,!decide ((strs.getD k st0).send+x.toNat≤31)⟩:=by
    rw [moreM]; simp only [ha,hs0,stAt,setSt]; simp [byteAt,edec]
   rw [hm]
   clear hm hid
   generalize strs.getD k st0=s at hrm hput hsf
   obtain ⟨sid,sst,shd,ssay,sbg,ssd,ssent,sgot,stx,shrd,ssnd,srm⟩:=s
   simp only at hsf
   have hput:=hput _ ⟨sid,sst,shd,ssay,sbg,ssd,ssent,sgot,stx,shrd,min (ssnd+x.toNat) 31,srm⟩ rfl
   simp -implicitDefEqProofs (disch:=omega) only [push_cast,simprocAttr,hap,hv,hb,hrm,hx0,emin,hput,↓gd]
   repeat refine And.intro (by omega) ?_
   refine ⟨_,_,Wk.refl _ _ _,b,c,⟨ans,out,outM,inn,innM,came,strs.set k ⟨sid,sst,shd,ssay,sbg,ssd,ssent,sgot,stx,shrd,min (ssnd+x.toNat) 31,srm⟩,snd,rm,wait,false⟩,_,rfl,PtrTo.mk' b c ?_ ?_ ?_ (.inl rfl) (.inl rfl) (((Upd.refl _ _).set _ (.inr (by simp))).app _),rfl⟩
   ·simp -implicitDefEqProofs (disch:=omega) only [push_cast,simprocAttr,hv,↓gd]
   ·simp -implicitDefEqProofs (disch:=omega) only [push_cast,simprocAttr,↓gd]
   ·simp -implicitDefEqProofs (disch:=omega) only [push_cast,simprocAttr,hc,↓gd]
end
end Go.Proofs.YtldogccmhncnoaaGreatDoor
