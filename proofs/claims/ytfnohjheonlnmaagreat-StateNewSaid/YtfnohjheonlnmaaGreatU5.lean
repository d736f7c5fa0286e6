/- What the laws of this claim rest on: the abstract executor, its soundness, and what the functions compute on pure data. No condition. -/
import Derived.Test.YtfnohjheonlnmaaGreatU4
import Derived.Shelf.SlSortCmp.NoneTotal
import Derived.Ground.SlsfProg
import Derived.Test.YtfnohjheonlnmaaGreatProg
noncomputable section
set_option linter.unusedVariables false
set_option linter.unusedSimpArgs false
namespace Go.Proofs.YtfnohjheonlnmaaGreat
open Go.du
set_option linter.unusedSimpArgs false
set_option linter.unusedVariables false
set_option maxRecDepth 20000
set_option maxHeartbeats 4000000
def pX(l:List bG)(k:Nat):Option Int:=if k=0 then none else(l[k-1]?).map bG.t
theorem vu(l:List bG)(hl:l.length<=4611686018427387904):bj Tryz.prog 209 [.aw (l.map bG.enc)] (· = .bool (dJ l)):=by refine aF tQ mixed Tryz.func209 ?_;unfold Tryz.f209;simp-implicitDefEqProofs (disch:=first|omega|decide) only[go_sem,↓reduceIte,seval,aa];refine aW [0,5,6] (ι:={k:Nat//k<=l.length/\dJ l=QY (pX l k) (l.drop k)/\ ∀h:k-1<l.length,0<k->fH l[k-1]=true}) (fun p=>[(7,.int .i64 p.1),(2,.bool false)]) (fun _=>[]) (fun p=>l.length-p.1) ⟨0,by omega,rfl,fun _ h=>absurd h (by omega)⟩ (ak _) ?_ ?_;{simp-implicitDefEqProofs (disch:=first|omega|decide) only[go_sem,↓reduceIte,seval]};{rintro⟨k,hk,hd,hp⟩;simp only;by_cases bh:k<l.length;{(have aA:(k:Int)<(l.length:Int):=by omega);have e1:=run_get bh;(have FR:pX l (k+1)=some l[k].t:=by unfold pX;rw[if_neg (by omega),show k+1-1=k by omega,ad bh];rfl);rw[ao bh]at hd;simp only[QY]at hd;have next:dJ l=QY (some l[k].t) (l.drop (k+1))->fH l[k]=true-> ∃j:{k:Nat//k<=l.length/\dJ l=QY (pX l k) (l.drop k)/\ ∀h:k-1<l.length,0<k->fH l[k-1]=true},(k:Int)+1=(j.1:Int)/\l.length-j.1<l.length-k:=fun h h'=>⟨⟨k+1,bh,by rw[FR];exact h,fun _ _=>h'⟩,by simp,by show l.length-(k+1)<l.length-k;omega⟩;generalize hx:l[k]=x at*;obtain⟨f,t⟩:=x;cases h1:fH ⟨f,t⟩with|false=>((have hh:dJ l=false:=by rw[hd,h1];rfl);simp-implicitDefEqProofs (disch:=first|omega|decide) only[go_sem,↓reduceIte,seval,aA,e1,h1,hh,wrap_i64,aa])|true=>(obtain⟨o1,o2,o3⟩:=nK h1;simp only at o1 o2 o3;by_cases h0:0<k;{(have Ik:(0:Int)<(k:Int):=by omega);(have pP:k-1<l.length:=by omega);have e0:=run_get pP;have hpo:=hp pP h0;(have hpt:pX l k=some l[k-1].t:=by unfold pX;rw[if_neg (by omega),ad pP];rfl);(have t0:((k:Int)-1).toNat=k-1:=by omega);(have b0:(0:Int)<=(k:Int)-1:=by omega);(have b1:(k:Int)-1<(l.length:Int):=by omega);rw[hpt]at hd;generalize hy:l[k-1]=y at*;obtain⟨f',t'⟩:=y;obtain⟨p1,p2,p3⟩:=nK hpo;simp only at p1 p2 p3 hd;by_cases h2:f-t'<2;{(have hh:dJ l=false:=by rw[hd];(have: ¬t'+2<=f:=by omega);simp[this]);simp-implicitDefEqProofs (disch:=first|omega|decide) only[go_sem,↓reduceIte,seval,aA,e1,e0,h1,Ik,t0,b0,b1,h2,hh,wrap_i64,aa]};{simp-implicitDefEqProofs (disch:=first|omega|decide) only[go_sem,↓reduceIte,seval,aA,e1,e0,h1,Ik,t0,b0,b1,h2,wrap_i64,aa];(have h3:t'+2<=f:=by omega);exact next (by rw[hd,h1];simp[h3]) h1}};{(have Ik: ¬(0:Int)<(k:Int):=by omega);simp-implicitDefEqProofs (disch:=first|omega|decide) only[go_sem,↓reduceIte,seval,aA,e1,h1,Ik,wrap_i64,aa];(have zw:k=0:=by omega);exact next (by rw[hd,h1];simp[pX,zw]) h1})};{(have aA: ¬(k:Int)<(l.length:Int):=by omega);(have hh:dJ l=true:=by rw[hd,aC (by omega)];cases pX l k<;>rfl);simp-implicitDefEqProofs (disch:=first|omega|decide) only[go_sem,↓reduceIte,seval,aA,hh,aa]}}
theorem Il(l:List bG)(hl:l.length<=4611686018427387904):bj Tryz.prog 194 [.aw (l.map bG.enc)] (· = .bool (dJ l)):=by refine aF tQ mixed Tryz.func194 ?_;unfold Tryz.f194;simp-implicitDefEqProofs (disch:=first|omega|decide) only[go_sem,↓reduceIte,seval,aa];refine aW [0] (ι:={k:Nat//k<=l.length/\dJ l=QY (pX l k) (l.drop k)/\ ∀h:k-1<l.length,0<k->fH l[k-1]=true}) (fun p=>[(3,.int .i64 p.1),(2,.bool false)]) (fun _=>[]) (fun p=>l.length-p.1) ⟨0,by omega,rfl,fun _ h=>absurd h (by omega)⟩ (ak _) ?_ ?_;{simp-implicitDefEqProofs (disch:=first|omega|decide) only[go_sem,↓reduceIte,seval]};{rintro⟨k,hk,hd,hp⟩;simp only;by_cases bh:k<l.length;{(have aA:(k:Int)<(l.length:Int):=by omega);have e1:=run_get bh;(have FR:pX l (k+1)=some l[k].t:=by unfold pX;rw[if_neg (by omega),show k+1-1=k by omega,ad bh];rfl);rw[ao bh]at hd;simp only[QY]at hd;have next:dJ l=QY (some l[k].t) (l.drop (k+1))->fH l[k]=true-> ∃j:{k:Nat//k<=l.length/\dJ l=QY (pX l k) (l.drop k)/\ ∀h:k-1<l.length,0<k->fH l[k-1]=true},(k:Int)+1=(j.1:Int)/\l.length-j.1<l.length-k:=fun h h'=>⟨⟨k+1,bh,by rw[FR];exact h,fun _ _=>h'⟩,by simp,by show l.length-(k+1)<l.length-k;omega⟩;generalize hx:l[k]=x at*;obtain⟨f,t⟩:=x;cases h1:fH ⟨f,t⟩with|false=>((have hh:dJ l=false:=by rw[hd,h1];rfl);simp-implicitDefEqProofs (disch:=first|omega|decide) only[go_sem,↓reduceIte,seval,aA,e1,h1,hh,wrap_i64,aa])|true=>(obtain⟨o1,o2,o3⟩:=nK h1;simp only at o1 o2 o3;by_cases h0:0<k;{(have Ik:(0:Int)<(k:Int):=by omega);(have pP:k-1<l.length:=by omega);have e0:=run_get pP;have hpo:=hp pP h0;(have hpt:pX l k=some l[k-1].t:=by unfold pX;rw[if_neg (by omega),ad pP];rfl);(have t0:((k:Int)-1).toNat=k-1:=by omega);(have b0:(0:Int)<=(k:Int)-1:=by omega);(have b1:(k:Int)-1<(l.length:Int):=by omega);rw[hpt]at hd;generalize hy:l[k-1]=y at*;obtain⟨f',t'⟩:=y;obtain⟨p1,p2,p3⟩:=nK hpo;simp only at p1 p2 p3 hd;by_cases h2:f<t'+2;{(have hh:dJ l=false:=by rw[hd];(have: ¬t'+2<=f:=by omega);simp[this]);simp-implicitDefEqProofs (disch:=first|omega|decide) only[go_sem,↓reduceIte,seval,aA,e1,e0,h1,Ik,t0,b0,b1,h2,hh,wrap_i64,aa]};{simp-implicitDefEqProofs (disch:=first|omega|decide) only[go_sem,↓reduceIte,seval,aA,e1,e0,h1,Ik,t0,b0,b1,h2,wrap_i64,aa];(have h3:t'+2<=f:=by omega);exact next (by rw[hd,h1];simp[h3]) h1}};{(have Ik: ¬(0:Int)<(k:Int):=by omega);simp-implicitDefEqProofs (disch:=first|omega|decide) only[go_sem,↓reduceIte,seval,aA,e1,h1,Ik,wrap_i64,aa];(have zw:k=0:=by omega);exact next (by rw[hd,h1];simp[pX,zw]) h1})};{(have aA: ¬(k:Int)<(l.length:Int):=by omega);(have hh:dJ l=true:=by rw[hd,aC (by omega)];cases pX l k<;>rfl);simp-implicitDefEqProofs (disch:=first|omega|decide) only[go_sem,↓reduceIte,seval,aA,hh,aa]}}
theorem OC(l:List bG)(n:Int)(hl:l.length<=4611686018427387904):bj Tryz.prog 183 [.aw (l.map bG.enc),.int .i64 n] (· = .bool (a_ l n)):=by refine aF tQ mixed Tryz.func183 ?_;unfold Tryz.f183;simp-implicitDefEqProofs (disch:=first|omega|decide) only[go_sem,↓reduceIte,seval,aa];refine aW [0,1] (ι:={k:Nat//k<=l.length/\a_ l n=a_ (l.drop k) n}) (fun p=>[(5,.int .i64 p.1),(4,.bool false)]) (fun _=>[]) (fun p=>l.length-p.1) ⟨0,by omega,rfl⟩ (ak _) ?_ ?_;{simp-implicitDefEqProofs (disch:=first|omega|decide) only[go_sem,↓reduceIte,seval]};{rintro⟨k,hk,hd⟩;simp only;by_cases bh:k<l.length;{(have aA:(k:Int)<(l.length:Int):=by omega);have e1:=run_get bh;rw[ao bh]at hd;generalize hx:l[k]=x at*;obtain⟨f,t⟩:=x;simp only[a_,cw]at hd;have next:a_ l n=a_ (l.drop (k+1)) n-> ∃j:{k:Nat//k<=l.length/\a_ l n=a_ (l.drop k) n},(k:Int)+1=(j.1:Int)/\l.length-j.1<l.length-k:=fun h=>⟨⟨k+1,bh,h⟩,by simp,by show l.length-(k+1)<l.length-k;omega⟩;cases h1:fH ⟨f,t⟩with|false=>(simp-implicitDefEqProofs (disch:=first|omega|decide) only[go_sem,↓reduceIte,seval,aA,e1,h1,wrap_i64,aa];exact next (by rw[h1]at hd;simpa[a_]using hd))|true=>(by_cases h2:f<=n;{by_cases h3:n<=t;{(have hh:a_ l n=true:=by unfold a_;rw[hd];simp[h1,h2,h3]);simp-implicitDefEqProofs (disch:=first|omega|decide) only[go_sem,↓reduceIte,seval,aA,e1,h1,h2,h3,hh,wrap_i64,aa]};{simp-implicitDefEqProofs (disch:=first|omega|decide) only[go_sem,↓reduceIte,seval,aA,e1,h1,h2,h3,wrap_i64,aa];exact next (by rw[h1]at hd;simpa[a_,h2,h3]using hd)}};{simp-implicitDefEqProofs (disch:=first|omega|decide) only[go_sem,↓reduceIte,seval,aA,e1,h1,h2,wrap_i64,aa];exact next (by rw[h1]at hd;simpa[a_,h2]using hd)})};{(have aA: ¬(k:Int)<(l.length:Int):=by omega);(have hh:a_ l n=false:=by rw[hd,aC (by omega)];rfl);simp-implicitDefEqProofs (disch:=first|omega|decide) only[go_sem,↓reduceIte,seval,aA,hh,aa]}}
def QZ(r:bG)(n:Int):Bool:=decide (r.f<=n)&&decide (n<=r.t)
def RR:List bG->Prop| []=>True| [r]=>fH r=true|r::q::l=>fH r=true/\q.t+2<=r.f/\RR (q::l)
theorem fI{r:bG}:fH r=true ↔ 1<=r.f/\r.f<=r.t/\r.t<=1099511627776:=by simp[fH,and_assoc]
theorem OD: ∀(l:List bG) (p:Option Int) (q r:bG),QY p (l++[q,r])=(QY p (l++[q])&&(fH r&&decide (q.t+2<=r.f)))| [],p,q,r=>by cases p<;>simp[QY,ep]|x::l,p,q,r=>by simp only[bA,QY,OD l (some x.t) q r,ep]
theorem wS: ∀{l:List bG},dJ l.reverse=true ↔ RR l| []=>by simp[dJ,QY,RR]| [r]=>by simp[dJ,QY,RR]|r::q::l=>by have ih:= @wS (q::l);simp only[gD,aX,bA,bw,dJ]at ih⊢;rw[OD,aj,ih,RR,aj,decide_eq_true_iff];exact⟨fun⟨a,b,c⟩=>⟨b,c,a⟩,fun⟨b,c,a⟩=>⟨a,b,c⟩⟩
theorem qB{l:List bG}:dJ l=true ↔ RR l.reverse:=by have:= @wS l.reverse;rwa [eI]at this
theorem Aa{r:bG}: ∀{l:List bG},RR (r::l)->RR l| [],_=>trivial|_::_,h=>h.2.2
theorem kE{r:bG}: ∀{l:List bG},RR (r::l)->fH r=true| [],h=>h|_::_,h=>h.1
theorem rr_all: ∀{l:List bG},RR l-> ∀r∈l,fH r=true| [],_,r,hr=>by cases hr|q::l,h,r,hr=>by rcases aB.1 hr with rfl|hr;{exact kE h};{exact rr_all (Aa h) r hr}
theorem vv: ∀{l:List bG} {r:bG},RR (r::l)-> ∀q∈l,q.t+2<=r.f| [],_,_,q,hq=>by cases hq|p::l,r,h,q,hq=>by rcases aB.1 hq with rfl|hq;{exact h.2.1};{have h1:=vv h.2.2 q hq;have h2:=fI.1 (kE h.2.2);have h3:=h.2.1;omega}
theorem vw(r:bG)(l:List bG)(n:Int):a_ (r::l) n=(fH r&&QZ r n||a_ l n):=by simp[a_,QZ,ep]
theorem wT(n:Int):a_ [] n=false:=rfl
theorem lI(l m:List bG)(n:Int):a_ (l++m) n=(a_ l n||a_ m n):=by simp[a_]
theorem wU(l:List bG)(n:Int):a_ l.reverse n=a_ l n:=by simp[a_]
theorem ju{l:List bG}{n:Int}:a_ l n=true ↔∃r∈l,fH r=true/\r.f<=n/\n<=r.t:=by simp[a_,and_assoc]
theorem Xy{l:List bG}{n:Int}(h:a_ l n=true):1<=n/\n<=1099511627776:=by obtain⟨r,_,h1,h2,h3⟩:=ju.1 h;have:=fI.1 h1;omega
theorem has_perm{l m:List bG}(h:l.Perm m)(n:Int):a_ l n=a_ m n:=by rw[bx,ju,ju];exact⟨fun⟨r,hr,h1⟩=>⟨r,h.mem_iff.1 hr,h1⟩,fun⟨r,hr,h1⟩=>⟨r,h.mem_iff.2 hr,h1⟩⟩
theorem Sb(l:List bG)(n:Int):a_ (l.filter fH) n=a_ l n:=by rw[bx,ju,ju];exact⟨fun⟨r,hr,h1⟩=>⟨r,(aS.1 hr).1,h1⟩,fun⟨r,hr,h1⟩=>⟨r,aS.2 ⟨hr,h1.1⟩,h1⟩⟩
theorem Sc{r:bG}{l:List bG}(h:RR (r::l)): ∀n,a_ (r::l) n=true->n<=r.t:=fun n hn=>by obtain⟨q,hq,h1,h2,h3⟩:=ju.1 hn;rcases aB.1 hq with rfl|hq;{exact h3};{have:=vv h q hq;have:=fI.1 (kE h);omega}
theorem rr_has{r:bG}{l:List bG}(h:RR (r::l))(n:Int):a_ l n=(a_ (r::l) n&&decide (n+2<=r.f)):=by rw[bx,aj,decide_eq_true_iff,ju,ju];constructor;{rintro⟨q,hq,h1,h2,h3⟩;have:=vv h q hq;exact⟨⟨q,dI _ hq,h1,h2,h3⟩,by omega⟩};{rintro⟨⟨q,hq,h1,h2,h3⟩,h4⟩;rcases aB.1 hq with rfl|hq;{omega};{exact⟨q,hq,h1,h2,h3⟩}}
theorem JC: ∀{l m:List bG},RR l->RR m->(∀n,a_ l n=a_ m n)->l=m| [],[],_,_,_=>rfl| [],r::m,_,h,hm=>by have h1:=fI.1 (kE h);have h2:a_ (r::m) r.t=true:=ju.2 ⟨r,by simp,kE h,h1.2.1,cQ _⟩;rw[<-hm]at h2;cases h2|r::l,[],h,_,hm=>by have h1:=fI.1 (kE h);have h2:a_ (r::l) r.t=true:=ju.2 ⟨r,by simp,kE h,h1.2.1,cQ _⟩;rw[hm]at h2;cases h2|r::l,q::m,h,h',hm=>by have o1:=fI.1 (kE h);have o2:=fI.1 (kE h');have a1:a_ (r::l) r.t=true:=ju.2 ⟨r,by simp,kE h,o1.2.1,cQ _⟩;have a2:a_ (q::m) q.t=true:=ju.2 ⟨q,by simp,kE h',o2.2.1,cQ _⟩;rw[hm]at a1;rw[<-hm]at a2;have b1:=Sc h' _ a1;have b2:=Sc h _ a2;(have et:r.t=q.t:=by omega);(have key: ∀{r q:bG} {l m:List bG},RR (r::l)->RR (q::m)->(∀n,a_ (r::l) n=a_ (q::m) n)->r.t=q.t->r.f<=q.f:=by intro r q l m h h' hm et;rcases Int.lt_or_le q.f r.f with bh|hle;{exfalso;have o1:=fI.1 (kE h);have o2:=fI.1 (kE h');have c1:a_ (q::m) (r.f-1)=true:=ju.2 ⟨q,by simp,kE h',by omega,by omega⟩;rw[<-hm]at c1;obtain⟨p,hp,h1,h2,h3⟩:=ju.1 c1;rcases aB.1 hp with rfl|hp;{omega};{have:=vv h p hp;omega}};{exact hle});(have ef:r.f=q.f:=by have:=key h h' hm et;have:=key h' h (fun n=>(hm n).symm) et.symm;omega);(have e:r=q:=by cases r;cases q;simp_all);subst e;rw[JC (Aa h) (Aa h') fun n=>by rw[rr_has h,rr_has h',hm]]
theorem Lh{l m:List bG}(h:dJ l=true)(h':dJ m=true)(hm: ∀n,a_ l n=a_ m n):l=m:=by have:=JC (qB.1 h) (qB.1 h') (fun n=>by rw[wU,wU,hm]);simpa using this
open Classical in /-- The right list of what is meant, if there is one. -/def fS(p:Int->Bool):List bG:=if h: ∃l,dJ l=true/\ ∀n,a_ l n=p n then Classical.choose h else []
def IsR(p:Int->Bool):Prop:= ∃l,dJ l=true/\ ∀n,a_ l n=p n
theorem mE(p:Int->Bool):dJ (fS p)=true:=by unfold fS;split;{rename_i h;exact(db h).1};{rfl}
theorem sH{p:Int->Bool}(h:IsR p)(n:Int):a_ (fS p) n=p n:=by unfold fS;rw[dif_pos (show∃l,dJ l=true/\ ∀n,a_ l n=p n from h)];exact(db h).2 n
theorem wV{p:Int->Bool}{l:List bG}(h:dJ l=true)(hp: ∀n,a_ l n=p n):l=fS p:=Lh h (mE p) fun n=>by rw[hp,sH ⟨l,h,hp⟩]
def fY:List bG->bG->List bG| [],r=>[r]|q::qs,r=>if r.f<q.t+2 then⟨q.f,if r.t>q.t then r.t else q.t⟩::qs else r::q::qs
def lowF(l:List bG)(x:Int):Prop:=match l with| []=>True|q::_=>q.f<=x
theorem C7{l:List bG}{r:bG}(h:RR l)(hr:fH r=true)(hf:lowF l r.f):RR (fY l r)/\lowF (fY l r) r.f/\ ∀n,a_ (fY l r) n=(a_ l n||QZ r n):=by cases l with|nil=>(exact⟨hr,cQ _,fun n=>by simp[fY,a_,hr,QZ]⟩)|cons q qs=>(have o1:=fI.1 hr;have o2:=fI.1 (kE h);have NK:q.f<=r.f:=hf;simp only[fY];by_cases hc:r.f<q.t+2;{rw[if_pos hc];generalize ht:(if r.t>q.t then r.t else q.t)=t;(have ht':(t=r.t/\q.t<r.t)\/(t=q.t/\r.t<=q.t):=by split at ht<;>omega);have ho:fH ⟨q.f,t⟩=true:=fI.2 ⟨o2.1,by show q.f<=t;omega,by show t<=_;omega⟩;refine⟨?_,NK,fun n=> ?_⟩;{cases qs with|nil=>(exact ho)|cons p ps=>(exact⟨ho,h.2.1,h.2.2⟩)};{rw[vw,vw,ho,kE h];(have:QZ ⟨q.f,t⟩ n=(QZ q n||QZ r n):=by rw[bx];simp only[QZ,aj,bE,decide_eq_true_iff];omega);rw[this];simp only[aD];cases QZ q n<;>cases QZ r n<;>cases a_ qs n<;>rfl}};{rw[if_neg hc];refine⟨⟨hr,by omega,h⟩,cQ _,fun n=> ?_⟩;rw[vw,hr];simp only[aD];cases QZ r n<;>cases a_ (q::qs) n<;>rfl})
theorem JD(l:List bG)(r:bG):(fY l r).length<=l.length+1:=by cases l with|nil=>(simp[fY])|cons q qs=>(simp only[fY];split<;>simp)
theorem fold_push: ∀{l:List bG} {a:List bG},RR a->(∀r∈l,fH r=true)->l.Pairwise (fun x y=>x.f<=y.f)->(∀r∈l,lowF a r.f)->RR (l.foldl fY a)/\ ∀n,a_ (l.foldl fY a) n=(a_ a n||a_ l n)| [],a,h,_,_,_=>⟨h,fun n=>by simp[a_]⟩|r::l,a,h,ho,hs,hf=>by obtain⟨h1,h2,h3⟩:=C7 h (ho r (by simp)) (hf r (by simp));rw[aT]at hs;obtain⟨h4,h5⟩:=fold_push (l:=l) h1 (fun q hq=>ho q (by simp[hq])) hs.2 (fun q hq=>by have:=hs.1 q hq;revert h2;cases fY a r with|nil=>(intro _;trivial)|cons p ps=>(intro h2;exact Int.le_trans h2 this));refine⟨h4,fun n=> ?_⟩;rw[cj,h5,h3,vw,ho r (by simp)];simp only[aD,Bool.or_assoc]
theorem Im{l:List bG}(ho: ∀r∈l,fH r=true)(hs:l.Pairwise (fun x y=>x.f<=y.f)):(l.foldl fY []).reverse=fS (a_ l):=by obtain⟨h1,h2⟩:=fold_push (a:=[]) trivial ho hs (fun _ _=>trivial);exact wV (wS.2 h1) fun n=>by rw[wU,h2];simp[a_]
end Go.Proofs.YtfnohjheonlnmaaGreat
namespace Go.Proofs.YtfnohjheonlnmaaGreat
open Go.du
set_option linter.unusedSimpArgs false
set_option linter.unusedVariables false
def og:List Int->Int->List Int| [],n=>[n]|x::xs,n=>if x<n then x::og xs n else if x=n then x::xs else n::x::xs
theorem Ab(l:List Int)(n:Int):(og l n).length<=l.length+1:=by induction l with|nil=>(simp[og])|cons x xs ih=>(simp only[og];split;{simp;omega};{split<;>simp})
theorem UZ(l:List Int)(n:Int):og l n≠ []:=by cases l with|nil=>(simp[og])|cons x xs=>(simp only[og];split;{simp};{split<;>simp})
theorem FT(l:List Int)(n x:Int):x∈og l n ↔ x=n\/x∈l:=by induction l with|nil=>(simp[og])|cons y ys ih=>(simp only[og];split;{rw[aB,ih,aB];exact⟨fun h=>by rcases h with h|h|h<;>simp[h],fun h=>by rcases h with h|h|h<;>simp[h]⟩};{split;{rename_i h1 h2;subst h2;simp};{simp}})
theorem U0{l:List Int}{n:Int}(h:l.Pairwise (· < ·)):(og l n).Pairwise (· < ·):=by induction l with|nil=>(simp[og])|cons y ys ih=>(rw[aT]at h;simp only[og];split;{rename_i h1;rw[aT];refine⟨fun x hx=> ?_,ih h.2⟩;rcases(FT ys n x).1 hx with rfl|hx;{exact h1};{exact h.1 x hx}};{split;{exact aT.2 h};{rename_i h1 h2;rw[aT];refine⟨fun x hx=> ?_,aT.2 h⟩;rcases aB.1 hx with rfl|hx;{omega};{have:=h.1 x hx;omega}}})
def jh:List Int->List bG->List Int|e,[]=>e|e,r::rs=>jh (if fH r then og (og e r.f) (r.t+1)else e) rs
theorem tR(e:List Int)(l:List bG):(jh e l).length<=e.length+2*l.length:=by induction l generalizing e with|nil=>(simp[jh])|cons r rs ih=>(simp only[jh,ay];refine aK (ih _) ?_;split;{have h1:=Ab e r.f;have h2:=Ab (og e r.f) (r.t+1);omega};{omega})
theorem C8(e:List Int)(l:List bG)(r:bG):jh e (l++[r])=if fH r then og (og (jh e l) r.f) (r.t+1)else jh e l:=by induction l generalizing e with|nil=>(simp[jh])|cons q rs ih=>(simp only[bA,jh];exact ih _)
theorem JE{e:List Int}{l:List bG}(h:e.Pairwise (· < ·)):(jh e l).Pairwise (· < ·):=by induction l generalizing e with|nil=>(exact h)|cons r rs ih=>(simp only[jh];apply ih;split;{exact U0 (U0 h)};{exact h})
theorem FU{l:List bG}{x:Int}: ∀{e:List Int},x∈jh e l ↔ x∈e\/ ∃r∈l,fH r=true/\(x=r.f\/x=r.t+1):=by induction l with|nil=>(intro e;simp[jh])|cons r rs ih=>(intro e;simp only[jh];rw[ih];cases h:fH r with|false=>(rw[if_neg (by simp)];constructor;{rintro(h1|⟨q,hq,h2⟩);{exact .inl h1};{exact .inr ⟨q,by simp[hq],h2⟩}};{rintro(h1|⟨q,hq,h2⟩);{exact .inl h1};{rcases aB.1 hq with rfl|hq;{rw[h]at h2;simp at h2};{exact .inr ⟨q,hq,h2⟩}}})|true=>(rw[if_pos rfl,FT,FT];constructor;{rintro((h1|h1|h1)|⟨q,hq,h2⟩);{exact .inr ⟨r,by simp,h,.inr h1⟩};{exact .inr ⟨r,by simp,h,.inl h1⟩};{exact .inl h1};{exact .inr ⟨q,by simp[hq],h2⟩}};{rintro(h1|⟨q,hq,h2⟩);{exact .inl (.inr (.inr h1))};{rcases aB.1 hq with rfl|hq;{rcases h2.2 with h3|h3;{exact .inl (.inr (.inl h3))};{exact .inl (.inl h3)}};{exact .inr ⟨q,hq,h2⟩}}}))
def df(a b:List bG):List Int:=jh (jh [] a) b
theorem pd(a b:List bG):(df a b).Pairwise (· < ·):=JE (JE List.Pairwise.nil)
theorem nr{a b:List bG}{x:Int}:x∈df a b ↔∃r∈a++b,fH r=true/\(x=r.f\/x=r.t+1):=by unfold df;rw[FU,FU];constructor;{rintro((h|⟨r,hr,h⟩)|⟨r,hr,h⟩);{cases h};{exact⟨r,by simp[hr],h⟩};{exact⟨r,by simp[hr],h⟩}};{rintro⟨r,hr,h⟩;rcases aG.1 hr with hr|hr;{exact .inl (.inr ⟨r,hr,h⟩)};{exact .inr ⟨r,hr,h⟩}}
theorem tS{a b:List bG}{x:Int}(h:x∈df a b):1<=x/\x<=1099511627777:=by obtain⟨r,_,h1,h2⟩:=nr.1 h;have:=fI.1 h1;omega
theorem FV(a b:List bG):(df a b).length<=2*a.length+2*b.length:=by have h1:=tR [] a;have h2:=tR (jh [] a) b;simp only[bo]at h1;unfold df;omega
theorem OE{l:List bG}{x n:Int}(hx:x<=n)(h: ∀r∈l,fH r=true-> ¬(x<r.f/\r.f<=n)/\ ¬(x<r.t+1/\r.t+1<=n)):a_ l n=a_ l x:=by rw[bx,ju,ju];constructor;{rintro⟨r,hr,h1,h2,h3⟩;have:=h r hr h1;exact⟨r,hr,h1,by omega,by omega⟩};{rintro⟨r,hr,h1,h2,h3⟩;have:=h r hr h1;exact⟨r,hr,h1,by omega,by omega⟩}
def opF(op:Int)(x y:Bool):Bool:=if op=1 then x||y else if op=2 then x&&y else x&& !y
theorem opF_ff(op:Int):opF op false false=false:=by unfold opF;split<;>(try split)<;>rfl
def nS(op:Int)(a b:List bG)(n:Int):Bool:=opF op (a_ a n) (a_ b n)
section
variable{op:Int}{a b:List bG}
theorem opP_flat{x n:Int}(hx:x<=n)(h: ∀y∈df a b,¬(x<y/\y<=n)):nS op a b n=nS op a b x:=by have e1:a_ a n=a_ a x:=OE hx fun r hr h1=>⟨h _ (nr.2 ⟨r,by simp[hr],h1,.inl rfl⟩),h _ (nr.2 ⟨r,by simp[hr],h1,.inr rfl⟩)⟩;have e2:a_ b n=a_ b x:=OE hx fun r hr h1=>⟨h _ (nr.2 ⟨r,by simp[hr],h1,.inl rfl⟩),h _ (nr.2 ⟨r,by simp[hr],h1,.inr rfl⟩)⟩;unfold nS;rw[e1,e2]
theorem Li{n:Int}(h: ∀y∈df a b,n<y):nS op a b n=false:=by (have e: ∀l:List bG,(∀r∈l,r∈a++b)->a_ l n=false:=fun l hl=>by rw[<-dD,ju];rintro⟨r,hr,h1,h2,h3⟩;have:=h _ (nr.2 ⟨r,hl r hr,h1,.inl rfl⟩);omega);unfold nS;rw[e a (fun r hr=>by simp[hr]),e b (fun r hr=>by simp[hr]),opF_ff]
theorem OF{n:Int}(h: ∀y∈df a b,y<=n):nS op a b n=false:=by (have e: ∀l:List bG,(∀r∈l,r∈a++b)->a_ l n=false:=fun l hl=>by rw[<-dD,ju];rintro⟨r,hr,h1,h2,h3⟩;have:=h _ (nr.2 ⟨r,hl r hr,h1,.inr rfl⟩);omega);unfold nS;rw[e a (fun r hr=>by simp[hr]),e b (fun r hr=>by simp[hr]),opF_ff]
end
def BD(P:Int->Bool)(e:List Int):Nat->List bG|0=>[]|k+1=>if P (e[k]!)then fY (BD P e k) ⟨e[k]!,e[k+1]! -1⟩else BD P e k
def topT(l:List bG)(x:Int):Prop:=match l with| []=>True|q::_=>q.t<x
theorem Lj(P:Int->Bool)(e:List Int): ∀k,(BD P e k).length<=k|0=>ae _|k+1=>by have h1:=Lj P e k;have h2:=JD (BD P e k) ⟨e[k]!,e[k+1]! -1⟩;simp only[BD];split<;>omega
theorem yA{e:List Int}(h:e.Pairwise (· < ·)){i j:Nat}(Bs:i<j)(hj:j<e.length):e[i]! <e[j]! :=by rw[getElem!_pos e i (by omega),getElem!_pos e j hj];exact cb.1 h i j (by omega) hj Bs
theorem top_push{l:List bG}{r:bG}(h:topT l r.f)(hr:r.f<=r.t):topT (fY l r) (r.t+1):=by cases l with|nil=>(show r.t<r.t+1;omega)|cons q qs=>(have h':q.t<r.f:=h;simp only[fY];split;{show(if r.t>q.t then r.t else q.t)<r.t+1;split<;>omega};{show r.t<r.t+1;omega})
theorem Ac(op:Int)(a b:List bG): ∀k,k<(df a b).length->RR (BD (nS op a b) (df a b) k)/\topT (BD (nS op a b) (df a b) k) ((df a b)[k]!)/\lowF (BD (nS op a b) (df a b) k) ((df a b)[k]!)/\∀n,a_ (BD (nS op a b) (df a b) k) n=(decide (n<(df a b)[k]!)&&nS op a b n)|0,hk=>by refine⟨trivial,trivial,trivial,fun n=> ?_⟩;by_cases h:n<(df a b)[0]!;{rw[Li];{show a_ [] n=_;rw[wT,bL]};intro y hy;obtain⟨i,hi,rfl⟩:=ec.1 hy;have:(df a b)[i]! =(df a b)[i]:=getElem!_pos _ i hi;rcases Nat.eq_zero_or_pos i with rfl|hp;{omega};{have:=yA (pd a b) hp hi;omega}};{show a_ [] n=_;rw[wT,decide_eq_false h,aJ]}|k+1,hk=>by obtain⟨h1,h2,h3,h4⟩:=Ac op a b k (by omega);have bh:=yA (pd a b) (kP k) hk;have r1:=tS (a:=a) (b:=b) (x:=(df a b)[k]!) (by rw[getElem!_pos _ k (by omega)];exact ai _);have r2:=tS (a:=a) (b:=b) (x:=(df a b)[k+1]!) (by rw[getElem!_pos _ (k+1) hk];exact ai _);(have flat: ∀n,(df a b)[k]! <=n->n<(df a b)[k+1]! ->nS op a b n=nS op a b ((df a b)[k]!):=fun n hn oW=>opP_flat hn fun y hy=>by obtain⟨i,hi,rfl⟩:=ec.1 hy;have e:(df a b)[i]! =(df a b)[i]:=getElem!_pos _ i hi;rintro⟨g1,g2⟩;rcases kj i (k+1)with hh|hh|hh;{rcases fP (Nat.lt_succ_iff.1 hh)with hh'|hh';{have:=yA (pd a b) hh' (by omega);omega};{subst hh';omega}};{subst hh;omega};{have:=yA (pd a b) hh hi;omega});simp only[BD];generalize hx:(df a b)[k]! =x at*;generalize hy:(df a b)[k+1]! =y at*;generalize hm:BD (nS op a b) (df a b) k=m at*;cases hp:nS op a b x with|false=>(rw[if_neg (by simp)];refine⟨h1, ?_, ?_,fun n=> ?_⟩;{cases m with|nil=>(trivial)|cons q qs=>(show q.t<y;have:q.t<x:=h2;omega)};{cases m with|nil=>(trivial)|cons q qs=>(show q.f<=y;have:q.f<=x:=h3;omega)};{rw[h4];by_cases c1:n<x;{(have:n<y:=by omega);simp[c1,this]};{by_cases c2:n<y;{rw[flat n (by omega) c2,hp];simp};{simp[c1,c2]}}})|true=>(rw[if_pos rfl];have ho:fH ⟨x,y-1⟩=true:=fI.2 ⟨r1.1,by show x<=y-1;omega,by show y-1<=_;omega⟩;obtain⟨g1,g2,g3⟩:=C7 h1 ho h3;refine⟨g1, ?_, ?_,fun n=> ?_⟩;{have:=top_push (r:=⟨x,y-1⟩) h2 (by show x<=y-1;omega);simpa using this};{revert g2;cases fY m ⟨x,y-1⟩with|nil=>(intro _;trivial)|cons q qs=>(intro g2;have:q.f<=x:=g2;show q.f<=y;omega)};{rw[g3,h4];by_cases c1:n<x;{(have:n<y:=by omega);(have c3: ¬x<=n:=by omega);simp[c1,this,QZ,c3]};{by_cases c2:n<y;{rw[flat n (by omega) c2,hp];(have c3:x<=n:=by omega);(have c4:n<=y-1:=by omega);simp[QZ,c1,c2,c3,c4]};{(have c4: ¬n<=y-1:=by omega);simp[QZ,c1,c2,c4]}}})
theorem Lk(op:Int)(a b:List bG):(BD (nS op a b) (df a b) ((df a b).length-1)).reverse=fS (nS op a b):=by by_cases h:(df a b).length=0;{have e:df a b=[]:=aU.1 h;rw[h];refine wV rfl fun n=> ?_;rw[Li (fun y hy=>by rw[e]at hy;cases hy)];rfl};{obtain⟨h1,_,_,h4⟩:=Ac op a b ((df a b).length-1) (by omega);refine wV (wS.2 h1) fun n=> ?_;rw[wU,h4];by_cases c:n<(df a b)[(df a b).length-1]!;{rw[decide_eq_true c,aD]};{rw[OF];{simp};{intro y hy;obtain⟨i,hi,rfl⟩:=ec.1 hy;have e:(df a b)[i]! =(df a b)[i]:=getElem!_pos _ i hi;rcases fP (show i<=(df a b).length-1 by omega)with hh|hh;{have:=yA (pd a b) hh (by omega);omega};{subst hh;omega}}}}
theorem isR_op(op:Int)(a b:List bG):IsR (nS op a b):=by by_cases h:(df a b).length=0;{have e:df a b=[]:=aU.1 h;exact⟨[],rfl,fun n=>by rw[Li (fun y hy=>by rw[e]at hy;cases hy)];rfl⟩};{refine⟨fS (nS op a b),mE _,fun n=> ?_⟩;have h0:=Lk op a b;obtain⟨h1,_,_,h4⟩:=Ac op a b ((df a b).length-1) (by omega);rw[<-h0,wU,h4];by_cases c:n<(df a b)[(df a b).length-1]!;{rw[decide_eq_true c,aD]};{rw[OF];{simp};{intro y hy;obtain⟨i,hi,rfl⟩:=ec.1 hy;have e:(df a b)[i]! =(df a b)[i]:=getElem!_pos _ i hi;rcases fP (show i<=(df a b).length-1 by omega)with hh|hh;{have:=yA (pd a b) hh (by omega);omega};{subst hh;omega}}}}
theorem Ec(l:List bG):IsR (a_ l):=by obtain⟨m,h1,h2⟩:=isR_op 1 l [];exact⟨m,h1,fun n=>by rw[h2];simp[nS,opF,a_]⟩
end Go.Proofs.YtfnohjheonlnmaaGreat
namespace Go.Proofs.YtfnohjheonlnmaaGreat
open Go.du
set_option linter.unusedSimpArgs false
set_option linter.unusedVariables false
theorem Sd: ∀{l:List bG},RR l ↔ l.Pairwise (fun r q=>q.t+2<=r.f)/\ ∀r∈l,fH r=true| []=>by simp[RR]|r::l=>by constructor;{intro h;obtain⟨h1,h2⟩:=Sd.1 (Aa h);exact⟨aT.2 ⟨vv h,h1⟩,rr_all h⟩};{rintro⟨h1,h2⟩;rw[aT]at h1;have ih:=Sd.2 ⟨h1.2,fun q hq=>h2 q (by simp[hq])⟩;cases l with|nil=>(exact h2 r (by simp))|cons q l=>(exact⟨h2 r (by simp),h1.1 q (by simp),ih⟩)}
theorem Xz{l:List bG}:dJ l=true ↔ l.Pairwise (fun r q=>r.t+2<=q.f)/\ ∀r∈l,fH r=true:=by rw[qB,Sd,List.pairwise_reverse];simp
def vx(l:List bG):Int:=(l.map fun r=>r.t-r.f+1).sum
theorem U3: ∀{l:List bG} {p:Int},l.Pairwise (fun r q=>r.t+2<=q.f)->(∀r∈l,fH r=true)->(∀r∈l,p<=r.f)->1<=p->0<=vx l/\(l.length:Int)<=vx l/\vx l<=1099511627777-p\/l=[]| [],_,_,_,_,_=> .inr rfl|r::l,p,h,ho,hp,h1=>by rw[aT]at h;have o:=fI.1 (ho r (by simp));have hf:=hp r (by simp);(have e:vx (r::l)=(r.t-r.f+1)+vx l:=by simp[vx]);rcases U3 (l:=l) (p:=r.t+2) h.2 (fun q hq=>ho q (by simp[hq])) h.1 (by omega)with⟨g1,g2,g3⟩|rfl;{refine .inl ⟨by omega, ?_,by omega⟩;rw[e];simp only[ay];omega};{have e0:vx []=0:=rfl;rw[e0]at e;refine .inl ⟨by omega, ?_,by omega⟩;rw[e];simp only[ay,bo];omega}
theorem Se{l:List bG}(h:dJ l=true):0<=vx l/\(l.length:Int)<=vx l/\vx l<=1099511627776:=by obtain⟨h1,h2⟩:=Xz.1 h;rcases U3 (p:=1) h1 h2 (fun r hr=>(fI.1 (h2 r hr)).1) (cQ _)with g|rfl;{omega};{simp[vx]}
theorem U4{l:List bG}(h:dJ l=true):l.length<=1099511627776:=by have:=Se h;omega
structure aH where
 n:Int
 rs:List bG
 deriving DecidableEq
instance:Inhabited aH:=⟨⟨0,[]⟩⟩
def aH.cells(k:aH):List A:=[.int .i64 k.n,.aw (k.rs.map bG.enc)]
def aH.enc(k:aH):A:= .agg k.cells
def bI:List aH->Int->List bG| [],_=>[]|k::s,n=>if k.n=n then k.rs++bI s n else bI s n
theorem iQ: ∀(s t:List aH) (n:Int),bI (s++t) n=bI s n++bI t n| [],_,_=>rfl|k::s,t,n=>by simp only[bA,bI,iQ s t n];split;{rw[aX]};{rfl}
def dP(n:Int):Bool:=decide (1<=n)&&decide (n<=16)
theorem eo{n:Int}:dP n=true ↔ 1<=n/\n<=16:=by simp[dP]
def tT(s:List aH)(n c:Int):Bool:=dP n&&a_ (bI s n) c
def OG(p:Int)(k:aH):Bool:=dP k.n&&decide (p<k.n)&& !k.rs.isEmpty&&dJ k.rs
def FW:Int->List aH->Bool|_,[]=>true|p,k::s=>OG p k&&FW k.n s
def dm(s:List aH):Bool:=FW 0 s
def rL(t:Int->List bG):Nat->List aH|0=>[]|k+1=>if(t (k+1)).isEmpty then rL t k else rL t k++[⟨k+1,t (k+1)⟩]
def rz(t:Int->List bG):List aH:=rL t 16
theorem tU(t:Int->List bG): ∀k,(rL t k).length<=k|0=>ae _|k+1=>by have:=tU t k;simp only[rL];split;{omega};{simp;omega}
theorem OH(t:Int->List bG)(n:Int): ∀k:Nat,bI (rL t k) n=if 1<=n/\n<=k then t n else []|0=>by rw[if_neg (by omega)];rfl|k+1=>by have ih:=OH t n k;simp only[rL];by_cases e:n=k+1;{subst e;rw[if_neg (by omega)]at ih;rw[if_pos (show 1<=(k:Int)+1/\(k:Int)+1<=((k+1:Nat):Int) by omega)];by_cases h:(t (k+1)).isEmpty=true;{rw[if_pos h,ih];exact(List.isEmpty_iff.1 h).symm};{rw[if_neg h,iQ,ih];simp[bI]}};{(have h2:(1<=n/\n<=((k+1:Nat):Int)) ↔ (1<=n/\n<=(k:Int)):=by omega);split;{rw[ih];simp only[h2]};{rw[iQ,ih];(have:bI [⟨(k:Int)+1,t (k+1)⟩] n=[]:=by simp only[bI];rw[if_neg (by omega)]);rw[this,ba];simp only[h2]}}
theorem wW(t:Int->List bG)(n:Int):bI (rz t) n=if dP n=true then t n else []:=by unfold rz;rw[OH];simp only[eo];rfl
theorem OI: ∀(s:List aH) (p:Int) (k:aH),FW p (s++[k])=(FW p s&&OG (match s.getLast? with|some q=>q.n|none=>p) k)| [],p,k=>by simp[FW]|q::s,p,k=>by simp only[bA,FW,OI s q.n k,ep];congr 2;cases h:s.getLast? with|none=>(rw[List.getLast?_cons];simp[h])|some x=>(rw[List.getLast?_cons];simp[h])
theorem Ad{t:Int->List bG}{x:aH}: ∀{k:Nat},x∈rL t k->1<=x.n/\x.n<=k/\x.rs=t x.n/\x.rs≠ []|0,h=>by cases h|k+1,h=>by simp only[rL]at h;split at h;{have:=Ad h;exact⟨this.1,by omega,this.2.2⟩};{rename_i eF;rcases aG.1 h with h|h;{have:=Ad h;exact⟨this.1,by omega,this.2.2⟩};{simp only[aP]at h;subst h;exact⟨by show(1:Int)<=(k:Int)+1;omega,by show(k:Int)+1<=((k+1:Nat):Int);omega,rfl,fun e=>eF (List.isEmpty_iff.2 e)⟩}}
theorem JF{t:Int->List bG}(h: ∀n,dJ (t n)=true): ∀{k:Nat},k<=16->FW 0 (rL t k)=true|0,_=>rfl|k+1,hk=>by have ih:=JF (t:=t) h (k:=k) (by omega);simp only[rL];split;{exact ih};{rename_i eF;rw[OI,ih,aD];simp only[OG,h,ck,aj,decide_eq_true_iff,eo];refine⟨⟨by omega, ?_⟩,by simpa using eF⟩;split;{rename_i q hq;have:=Ad (List.mem_of_getLast? hq);omega};{omega}}
theorem FX{t:Int->List bG}(h: ∀n,dJ (t n)=true):dm (rz t)=true:=JF h (ae _)
theorem JG{t u:Int->List bG}: ∀{k:Nat},(∀n:Int,1<=n->n<=k->t n=u n)->rL t k=rL u k|0,_=>rfl|k+1,h=>by have ih:=JG (t:=t) (u:=u) (k:=k) (fun n h1 h2=>h n h1 (by omega));have e:=h (k+1) (by omega) (by omega);simp only[rL,ih,e]
theorem nu{t u:Int->List bG}(h: ∀n,dP n=true->t n=u n):rz t=rz u:=JG fun n h1 h2=>h n (eo.2 ⟨h1,by omega⟩)
theorem vy: ∀{s:List aH} {p n:Int},FW p s=true->n<=p->bI s n=[]| [],_,_,_,_=>rfl|k::s,p,n,h,hn=>by simp only[FW,OG,aj,decide_eq_true_iff]at h;simp only[bI];rw[if_neg (by omega)];exact vy h.2 (by omega)
theorem goK_rr: ∀{s:List aH} {p:Int},FW p s=true-> ∀n,dJ (bI s n)=true| [],_,_,_=>rfl|k::s,p,h,n=>by simp only[FW,OG,aj,decide_eq_true_iff]at h;simp only[bI];split;{rename_i e;rw[vy h.2 (Int.le_of_eq e.symm),ba];exact h.1.2};{exact goK_rr h.2 n}
theorem goK_mk: ∀{s:List aH} {p:Nat},FW p s=true->p<=16->rz (bI s)=(rL (bI s) p)++s| [],p,_,hp=>by (have e: ∀k,rL (bI []) k=[]:=fun k=>by induction k with|zero=>(rfl)|succ k ih=>(have e:(bI [] ((k:Int)+1)).isEmpty=true:=rfl;simp only[rL,e,if_true];exact ih));unfold rz;rw[e,e];rfl|k::s,p,h,hp=>by have h0:=h;simp only[FW,OG,aj,decide_eq_true_iff]at h;obtain⟨⟨⟨⟨h1,h2⟩,h3⟩,h4⟩,h5⟩:=h;rw[eo]at h1;obtain⟨m,hm⟩: ∃m:Nat,k.n=((m+1:Nat):Int):=⟨(k.n-1).toNat,by omega⟩;(have mw:bI (k::s) k.n=k.rs:=by simp only[bI,if_true];rw[vy h5 (cQ _),ba]);(have hrest: ∀n,k.n<n->bI (k::s) n=bI s n:=fun n hn=>by simp only[bI];rw[if_neg (by omega)]);(have sB: ∀n,n<k.n->bI (k::s) n=[]:=fun n hn=>by simp only[bI];rw[if_neg (by omega)];exact vy h5 (by omega));(have hz: ∀j:Nat,(j:Int)<k.n->rL (bI (k::s)) j=[]:=fun j=>by induction j with|zero=>(intro _;rfl)|succ j ih=>(intro hj;simp only[rL];rw[ih (by omega),sB _ (by omega)];rfl));(have hzs: ∀j:Nat,(j:Int)<=k.n->rL (bI s) j=[]:=fun j=>by induction j with|zero=>(intro _;rfl)|succ j ih=>(intro hj;simp only[rL];rw[ih (by omega),vy h5 (by omega)];rfl));(have XA: ∀j:Nat,m+1<=j->rL (bI (k::s)) j=k::rL (bI s) j:=fun j=>by induction j with|zero=>(intro hj;omega)|succ j ih=>(intro hj;rcases fP hj with hj|hj;{have hh:=ih (by omega);have e:=hrest (((j:Nat):Int)+1) (by omega);simp only[rL];rw[hh,e];split<;>simp};{(have e1:j=m:=by omega);subst e1;(have e2:((j:Nat):Int)+1=k.n:=by omega);rw[hzs (j+1) (by omega)];simp only[rL];rw[e2,mw,hz j (by omega)];cases hrs:k.rs with|nil=>(rw[hrs]at h3;simp at h3)|cons r rs=>(rw[if_neg (by simp)];cases k;simp_all)}));have ih:=goK_mk (s:=s) (p:=m+1) (by rw[<-hm];exact h5) (by omega);rw[hzs (m+1) (by omega)]at ih;rw[hz p (by omega)];unfold rz at ih⊢;rw[XA 16 (by omega),ih];rfl
theorem FY{s:List aH}(h:dm s=true):rz (bI s)=s:=by have:=goK_mk (s:=s) (p:=0) h (by omega);simpa[rL]using this
theorem Sf{s:List aH}(h:dm s=true):rz (fun n=>fS (a_ (bI s n)))=s:=by have e:=FY h;rw[<-nu (t:=bI s) fun n _=>wV (goK_rr h n) fun _=>rfl];exact e
end Go.Proofs.YtfnohjheonlnmaaGreat
namespace Go.Iv
set_option linter.unusedSimpArgs false
set_option linter.unusedVariables false
set_option linter.unusedSectionVars false
section
variable{α β:Type}(lt:α->α->Bool)
def BE(l:List ((α×Option α)×β))(x:α)(b:β):Prop:= ∃i∈l,jG lt i.1 x=true/\i.2=b
def OJ(i j:(α×Option α)×β):Prop:= ∃e,i.1.2=some e/\lt j.1.1 e=false/\(e=j.1.1->i.2≠j.2)
def qj:List ((α×Option α)×β)->Prop| []=>True| [i]=>below lt i.1.1 i.1.2=true|i::j::l=>below lt i.1.1 i.1.2=true/\OJ lt i j/\qj (j::l)
def C9:List ((α×Option α)×β)->Prop| []=>True| [i]=>below lt i.1.1 i.1.2=true|i::j::l=>below lt i.1.1 i.1.2=true/\OJ lt j i/\C9 (j::l)
def topL(l:List ((α×Option α)×β))(x:α):Prop:=match l with| []=>True|q::_=> ∃e,q.1.2=some e/\lt x e=false
def FZ [DecidableEq α] [DecidableEq β](l:List ((α×Option α)×β))(r:(α×Option α)×β):List ((α×Option α)×β):=match l with| []=>[r]|q::qs=>if q.1.2=some r.1.1/\q.2=r.2 then((q.1.1,r.1.2),q.2)::qs else r::q::qs
end
section
variable{α β:Type}{lt:α->α->Bool}(hl:Lin lt)
theorem rM{x:α}{b:β}: ¬BE lt [] x b:=by rintro⟨_,h,_⟩;cases h
theorem lV{i:(α×Option α)×β}{l:List ((α×Option α)×β)}{x:α}{b:β}:BE lt (i::l) x b ↔ (jG lt i.1 x=true/\i.2=b)\/BE lt l x b:=by simp[BE]
theorem inL_rev{l:List ((α×Option α)×β)}{x:α}{b:β}:BE lt l.reverse x b ↔ BE lt l x b:=by simp[BE]
theorem BF: ∀(l:List ((α×Option α)×β)) (i j:(α×Option α)×β),qj lt (l++[i,j]) ↔ qj lt (l++[i])/\OJ lt i j/\below lt j.1.1 j.1.2=true| [],i,j=>by simp[qj]| [x],i,j=>by have e:=BF [] i j;simp only[bw,bA,qj]at e⊢;exact⟨fun⟨a,b,c,d,e⟩=>⟨⟨a,b,c⟩,d,e⟩,fun⟨⟨a,b,c⟩,d,e⟩=>⟨a,b,c,d,e⟩⟩|x::y::l,i,j=>by have e:=BF (y::l) i j;simp only[bA,qj]at e⊢;rw[e];exact⟨fun⟨a,b,c,d,e⟩=>⟨⟨a,b,c⟩,d,e⟩,fun⟨⟨a,b,c⟩,d,e⟩=>⟨a,b,c,d,e⟩⟩
theorem JH: ∀{l:List ((α×Option α)×β)},qj lt l.reverse ↔ C9 lt l| []=>by simp[qj,C9]| [i]=>by simp[qj,C9]|i::j::l=>by have ih:= @JH (j::l);simp only[gD,aX,bA,bw]at ih⊢;rw[BF,ih,C9];exact⟨fun⟨a,b,c⟩=>⟨c,b,a⟩,fun⟨a,b,c⟩=>⟨c,b,a⟩⟩
theorem sI{i:(α×Option α)×β}: ∀{l:List ((α×Option α)×β)},qj lt (i::l)->qj lt l| [],_=>trivial|_::_,h=>h.2.2
theorem JI{i:(α×Option α)×β}: ∀{l:List ((α×Option α)×β)},qj lt (i::l)->below lt i.1.1 i.1.2=true| [],h=>h|_::_,h=>h.1
include hl
theorem vz: ∀{l:List ((α×Option α)×β)} {i:(α×Option α)×β} {x:α} {b:β},qj lt (i::l)->BE lt (i::l) x b->lt x i.1.1=false|l,i,x,b,h,hm=>by rcases lV.1 hm with⟨hm,_⟩|hm;{simp only[jG,aj,bT]at hm;exact hm.1};{cases l with|nil=>(exact absurd hm rM)|cons j l=>(obtain⟨h1,⟨e,he,bh,_⟩,h2⟩:=h;have sB:=vz h2 hm;(have hi:lt i.1.1 e=true:=by rw[he]at h1;exact h1);have Bs:lt i.1.1 j.1.1=true:=pT hl hi bh;cases hx:lt x i.1.1;{rfl};{have h4:=hl.tr _ _ _ hx Bs;rw[h4]at sB;cases sB})}
theorem OK{i:(α×Option α)×β}{l:List ((α×Option α)×β)}{x:α}{b:β}(h:qj lt (i::l))(hm:BE lt l x b): ∃e,i.1.2=some e/\lt x e=false/\(x=e->i.2≠b):=by cases l with|nil=>(exact absurd hm rM)|cons j l=>(obtain⟨h1,⟨e,he,bh,eF⟩,h2⟩:=h;have sB:=vz hl h2 hm;refine⟨e,he,pa hl sB bh,fun hx=> ?_⟩;subst hx;have hej:x=j.1.1:=sD hl sB bh;(have hb:j.2=b:=by rcases lV.1 hm with⟨_,hm⟩|hm;{exact hm};{exfalso;cases l with|nil=>(exact absurd hm rM)|cons k l=>(obtain⟨g1,⟨e',A5,aA,_⟩,g2⟩:=h2;have hlow':=vz hl g2 hm;rw[A5]at g1;have g1':lt j.1.1 e'=true:=g1;rw[<-hej]at g1';have:=pT hl g1' aA;rw[this]at hlow';cases hlow')});rw[<-hb];exact eF hej)
theorem qC{i:(α×Option α)×β}{l:List ((α×Option α)×β)}{x:α}{b:β}(h:qj lt (i::l)):BE lt l x b ↔ BE lt (i::l) x b/\jG lt i.1 x=false:=by constructor;{intro hm;refine⟨lV.2 (.inr hm), ?_⟩;obtain⟨e,he,hx,_⟩:=OK hl h hm;simp[jG,he,below,hx]};{rintro⟨hm,h1⟩;rcases lV.1 hm with⟨h2,_⟩|h2;{rw[h1]at h2;cases h2};{exact h2}}
theorem OL: ∀{l:List ((α×Option α)×β)} {x:α} {b c:β},qj lt l->BE lt l x b->BE lt l x c->b=c| [],_,_,_,_,h,_=>absurd h rM|i::l,x,b,c,h,h1,h2=>by cases hi:jG lt i.1 x with|true=>((have e: ∀d,BE lt (i::l) x d->i.2=d:=fun d hd=>by rcases lV.1 hd with⟨_,h3⟩|h3;{exact h3};{have:=(qC hl h).1 h3;rw[hi]at this;cases this.2});rw[<-e b h1,<-e c h2])|false=>(exact OL (sI h) ((qC hl h).2 ⟨h1,hi⟩) ((qC hl h).2 ⟨h2,hi⟩))
theorem vA{i:(α×Option α)×β}{l:List ((α×Option α)×β)}(h:qj lt (i::l)):BE lt (i::l) i.1.1 i.2:=lV.2 (.inl ⟨by simp[jG,hl.C6,JI h],rfl⟩)
theorem Ll{i j:(α×Option α)×β}{l m:List ((α×Option α)×β)}(h:qj lt (i::l))(h':qj lt (j::m))(hm: ∀x b,BE lt (i::l) x b ↔ BE lt (j::m) x b)(h0:i.1.1=j.1.1)(hb:i.2=j.2){e:α}(he:i.1.2=some e): ∃e',j.1.2=some e'/\lt e e'=false:=by (have hie:lt i.1.1 e=true:=by have:=JI h;rw[he]at this;exact this);(have hn: ¬BE lt (i::l) e i.2:=fun hi=>by rcases lV.1 hi with⟨h1,_⟩|h1;{simp[jG,he,below,hl.C6]at h1};{obtain⟨e',A5,_,eF⟩:=OK hl h h1;rw[he]at A5;exact eF (ah A5) rfl});rw[hm]at hn;cases hj:j.1.2 with|none=>(exact absurd (lV.2 (.inl ⟨by simp[jG,hj,below,<-h0,asymm hl hie],hb.symm⟩)) hn)|some e'=>(refine⟨e',rfl, ?_⟩;cases hee:lt e e' with|false=>(rfl)|true=>(exact absurd (lV.2 (.inl ⟨by simp[jG,hj,below,<-h0,asymm hl hie,hee],hb.symm⟩)) hn))
theorem C_: ∀{l m:List ((α×Option α)×β)},qj lt l->qj lt m->(∀x b,BE lt l x b ↔ BE lt m x b)->l=m| [],[],_,_,_=>rfl| [],j::m,_,h,hm=>absurd ((hm _ _).2 (vA hl h)) rM|i::l,[],h,_,hm=>absurd ((hm _ _).1 (vA hl h)) rM|i::l,j::m,h,h',hm=>by have a1:=(hm _ _).1 (vA hl h);have a2:=(hm _ _).2 (vA hl h');have e0:i.1.1=j.1.1:=sD hl (vz hl h' a1) (vz hl h a2);(have eb:i.2=j.2:=by have:=vA hl h';rw[<-e0]at this;exact OL hl h' a1 this);(have e1:i.1.2=j.1.2:=by cases hi:i.1.2 with|none=>(cases hj:j.1.2 with|none=>(rfl)|some e=>(obtain⟨e',h1,_⟩:=Ll hl h' h (fun x b=>(hm x b).symm) e0.symm eb.symm hj;rw[hi]at h1;cases h1))|some e=>(obtain⟨e',h1,h2⟩:=Ll hl h h' hm e0 eb hi;obtain⟨e'',h3,h4⟩:=Ll hl h' h (fun x b=>(hm x b).symm) e0.symm eb.symm h1;rw[hi]at h3;obtain rfl:=ah h3;rw[h1,sD hl h2 h4]));(have e:i=j:=by obtain⟨⟨a,b⟩,c⟩:=i;obtain⟨⟨a',b'⟩,c'⟩:=j;simp_all);subst e;rw[C_ (sI h) (sI h') fun x b=>by rw[qC hl h,qC hl h',hm]]
theorem OM [DecidableEq α] [DecidableEq β]{l:List ((α×Option α)×β)}{r:(α×Option α)×β}(h:C9 lt l)(hr:below lt r.1.1 r.1.2=true)(ht:topL lt l r.1.1):C9 lt (FZ l r)/\(∀x b,BE lt (FZ l r) x b ↔ BE lt l x b\/(jG lt r.1 x=true/\r.2=b))/\ ∃q qs,FZ l r=q::qs/\q.1.2=r.1.2:=by cases l with|nil=>(exact⟨hr,fun x b=>by simp[FZ,BE],r,[],rfl,rfl⟩)|cons q qs=>(obtain⟨e,he,hx⟩:=ht;simp only[FZ];by_cases hc:q.1.2=some r.1.1/\q.2=r.2;{rw[if_pos hc];(have hq:lt q.1.1 r.1.1=true:=by (have h0:below lt q.1.1 q.1.2=true:=by cases qs with|nil=>(exact h)|cons _ _=>(exact h.1));rw[hc.1]at h0;exact h0);(have U5:below lt q.1.1 r.1.2=true:=by cases hr2:r.1.2 with|none=>(rfl)|some e'=>(rw[hr2]at hr;exact hl.tr _ _ _ hq hr));refine⟨?_,fun x b=> ?_,_,_,rfl,rfl⟩;{cases qs with|nil=>(exact U5)|cons p ps=>(exact⟨U5,h.2.1,h.2.2⟩)};{rw[lV,lV];(have:jG lt (q.1.1,r.1.2) x=(jG lt q.1 x||jG lt r.1 x):=by have hb:below lt x (some r.1.1)=lt x r.1.1:=rfl;simp only[jG,hc.1,hb];cases h1:lt x q.1.1 with|true=>(have h2:lt x r.1.1=true:=hl.tr _ _ _ h1 hq;simp[h2])|false=>(cases h2:lt x r.1.1 with|true=>((have:below lt x r.1.2=true:=by cases hr2:r.1.2 with|none=>(rfl)|some e'=>(rw[hr2]at hr;exact hl.tr _ _ _ h2 hr));simp[this])|false=>(simp)));simp only[this,bE,hc.2];constructor;{rintro(⟨h1|h1,h2⟩|h1);{exact .inl (.inl ⟨h1,h2⟩)};{exact .inr ⟨h1,h2⟩};{exact .inl (.inr h1)}};{rintro((⟨h1,h2⟩|h1)|⟨h1,h2⟩);{exact .inl ⟨.inl h1,h2⟩};{exact .inr h1};{exact .inl ⟨.inr h1,h2⟩}}}};{rw[if_neg hc];refine⟨⟨hr,⟨e,he,hx,fun hee hb=>hc ⟨by rw[he,hee],hb⟩⟩,h⟩,fun x b=> ?_,_,_,rfl,rfl⟩;rw[lV];exact⟨fun h=>h.symm,fun h=>h.symm⟩})
end
end Go.Iv
namespace Go.Proofs.YtfnohjheonlnmaaGreat
open Go.du
set_option linter.unusedSimpArgs false
set_option linter.unusedVariables false
structure Pc where
 r:bc
 s:List aH
 deriving DecidableEq
instance:Inhabited Pc:=⟨⟨⟨[],[],true⟩,[]⟩⟩
def setAt(k:List Pc)(x:List UInt8):List aH:=(k.filter fun p=>eA p.r x).flatMap (·.s)
theorem lJ(k m:List Pc)(x:List UInt8):setAt (k++m) x=setAt k x++setAt m x:=by simp[setAt]
def dz(k:List Pc)(x:List UInt8)(n c:Int):Bool:=k.any fun p=>eA p.r x&&tT p.s n c
theorem hasP_at(k:List Pc)(x:List UInt8)(n c:Int):dz k x n c=tT (setAt k x) n c:=by induction k with|nil=>(simp[dz,setAt,tT,bI,a_])|cons p k ih=>((have e:setAt (p::k) x=(if eA p.r x=true then p.s else [])++setAt k x:=by unfold setAt;by_cases h:eA p.r x=true;{simp[h]};{simp[h]});have e2:dz (p::k) x n c=((eA p.r x&&tT p.s n c)||dz k x n c):=rfl;rw[e,e2,ih];unfold tT;rw[iQ,lI];cases eA p.r x<;>cases dP n<;>simp[bI,a_])
def jn(p:Pc):Bool:=bu p.r&& !p.s.isEmpty&&dm p.s
def BG(q p:Pc):Bool:= !q.r.op&& !cI p.r.lo q.r.hi&& !(q.r.hi==p.r.lo&&decide (q.s=p.s))
def Lm:Option Pc->List Pc->Bool|_,[]=>true|q,p::k=>jn p&&(match q with|none=>true|some q=>BG q p)&&Lm (some p) k
def cN(k:List Pc):Bool:=Lm none k
def A7(p:Pc):(List UInt8×Option (List UInt8))×List aH:=(rp p.r,p.s)
theorem ivP_inj{p q:Pc}(hp:jn p=true)(hq:jn q=true)(h:A7 p=A7 q):p=q:=by simp only[jn,aj]at hp hq;have h1:rp p.r=rp q.r:=congrArg Prod.fst h;have h2:p.s=q.s:=congrArg Prod.snd h;have:=iv_inj hp.1.1 hq.1.1 h1;cases p;cases q;simp_all
theorem U6{q p:Pc}:BG q p=true ↔ Iv.OJ cI (A7 q) (A7 p):=by simp only[BG,Iv.OJ,A7,rp,aj,bT,Bool.and_eq_false_iff,beq_eq_false_iff_ne,decide_eq_false_iff_not];constructor;{rintro⟨⟨h1,h2⟩,h3⟩;exact⟨q.r.hi,by simp[h1],h2,fun e=>by rcases h3 with h3|h3;{exact absurd e h3};{exact h3}⟩};{rintro⟨e,h1,h2,h3⟩;cases ho:q.r.op with|true=>(rw[ho]at h1;simp at h1)|false=>(rw[ho]at h1;simp at h1;subst h1;refine⟨⟨rfl,h2⟩, ?_⟩;by_cases h:q.r.hi=p.r.lo;{exact .inr (h3 h)};{exact .inl h})}
theorem U7: ∀{k:List Pc} {q:Option Pc},Lm q k=true ↔ (∀p∈k,jn p=true)/\Iv.qj cI (k.map A7)/\ ∀u,q=some u-> ∀p,k.head? =some p->BG u p=true| [],q=>by simp[Lm,Iv.qj]|p::k,q=>by have ih:= @U7 k (some p);simp only[Lm,aj,ih];constructor;{rintro⟨⟨h1,h2⟩,h3,h4,h5⟩;refine⟨fun r hr=> ?_, ?_,fun u hu r hr=> ?_⟩;{rcases aB.1 hr with rfl|hr;{exact h1};{exact h3 r hr}};{(have hb:Iv.below cI (A7 p).1.1 (A7 p).1.2=true:=by simp only[jn,aj]at h1;exact UW h1.1.1);cases k with|nil=>(exact hb)|cons r k=>(exact⟨hb,U6.1 (h5 p rfl r rfl),h4⟩)};{subst hu;simp at hr;subst hr;exact h2}};{rintro⟨h1,h2,h3⟩;refine⟨⟨h1 p (by simp), ?_⟩,fun r hr=>h1 r (by simp[hr]),Iv.sI h2,fun u hu r hr=> ?_⟩;{cases q with|none=>(rfl)|some u=>(exact h3 u rfl p rfl)};{obtain rfl:=ah hu;cases k with|nil=>(cases hr)|cons w k=>(simp at hr;subst hr;exact U6.2 h2.2.1)}}
theorem ji{k:List Pc}:cN k=true ↔ (∀p∈k,jn p=true)/\Iv.qj cI (k.map A7):=by unfold cN;rw[U7];simp
def vB(k:List Pc)(x:List UInt8)(l:List aH):Prop:=Iv.BE cI (k.map A7) x l
theorem C': ∀{k m:List Pc},(∀p∈k,jn p=true)->(∀p∈m,jn p=true)->k.map A7=m.map A7->k=m| [],[],_,_,_=>rfl| [],_::_,_,_,h=>by simp at h|_::_,[],_,_,h=>by simp at h|p::k,q::m,h1,h2,h=>by simp only[aR,dw]at h;rw[ivP_inj (h1 p (by simp)) (h2 q (by simp)) h.1,C' (fun r hr=>h1 r (by simp[hr])) (fun r hr=>h2 r (by simp[hr])) h.2]
theorem Io{k m:List Pc}(h:cN k=true)(h':cN m=true)(hm: ∀x l,vB k x l ↔ vB m x l):k=m:=by rw[ji]at h h';exact C' h.1 h'.1 (Iv.C_ uL h.2 h'.2 hm)
open Classical in /-- THE right list of what is meant. -/def cS(P:List UInt8->List aH):List Pc:=if h: ∃k,cN k=true/\ ∀x l,vB k x l ↔ P x=l/\l≠ []then Classical.choose h else []
def IsP(P:List UInt8->List aH):Prop:= ∃k,cN k=true/\ ∀x l,vB k x l ↔ P x=l/\l≠ []
theorem kF(P:List UInt8->List aH):cN (cS P)=true:=by unfold cS;split;{rename_i h;exact(db h).1};{rfl}
theorem JJ{P:List UInt8->List aH}(h:IsP P)(x:List UInt8)(l:List aH):vB (cS P) x l ↔ P x=l/\l≠ []:=by unfold cS;rw[dif_pos (show∃k,cN k=true/\ ∀x l,vB k x l ↔ P x=l/\l≠ []from h)];exact(db h).2 x l
theorem Ln{P:List UInt8->List aH}{k:List Pc}(h:cN k=true)(hp: ∀x l,vB k x l ↔ P x=l/\l≠ []):k=cS P:=Io h (kF P) fun x l=>by rw[hp,JJ ⟨k,h,hp⟩]
theorem Ae{k:List Pc}(hk: ∀p∈k,jn p=true){x:List UInt8}{l:List aH}:vB k x l ↔∃p∈k,eA p.r x=true/\p.s=l:=by unfold vB Iv.BE;constructor;{rintro⟨i,hi,h1,h2⟩;obtain⟨p,hp,rfl⟩:=bV.1 hi;have:=hk p hp;simp only[jn,aj]at this;exact⟨p,hp,by rw[tL,this.1.1];exact h1,h2⟩};{rintro⟨p,hp,h1,h2⟩;refine⟨A7 p,bV.2 ⟨p,hp,rfl⟩, ?_,h2⟩;rw[tL,aj]at h1;exact h1.2}
theorem vC: ∀{k:List Pc},cN k=true-> ∀{x:List UInt8} {p:Pc},p∈k->eA p.r x=true->setAt k x=p.s| [],_,_,_,h,_=>by cases h|q::k,hr,x,p,hp,hx=>by have hc:=ji.1 hr;have ht:cN k=true:=ji.2 ⟨fun r h=>hc.1 r (by simp[h]),Iv.sI hc.2⟩;(have e:setAt (q::k) x=(if eA q.r x=true then q.s else [])++setAt k x:=by unfold setAt;by_cases h:eA q.r x=true;{simp[h]};{simp[h]});rw[e];cases hq:eA q.r x with|true=>((have ry: ∀r∈k,eA r.r x=false:=fun r hr2=>by rw[<-dD];intro hrx;have h1:Iv.BE cI (k.map A7) x r.s:=(Ae (fun r h=>hc.1 r (by simp[h]))).2 ⟨r,hr2,hrx,rfl⟩;have h2:=(Iv.qC uL hc.2).1 h1;rw[tL,aj]at hq;have h3:Iv.jG cI (A7 q).1 x=true:=hq.2;rw[h2.2]at h3;cases h3);(have h0:setAt k x=[]:=by unfold setAt;rw[cD.2 (fun r h=>by rw[ry r h];simp)];rfl);(have hpq:p=q:=by rcases aB.1 hp with h|h;{exact h};{rw[ry p h]at hx;cases hx});rw[h0,hpq];simp)|false=>((have Q0:p∈k:=by rcases aB.1 hp with h|h;{subst h;rw[hq]at hx;cases hx};{exact h});simp only[ar,if_false,bw];exact vC ht Q0 hx)
def fg:List Pc->Pc->List Pc| [],r=>[r]|q::qs,r=>if(!q.r.op&&q.r.hi==r.r.lo&&decide (q.s=r.s))=true then⟨⟨q.r.lo,r.r.hi,r.r.op⟩,q.s⟩::qs else r::q::qs
theorem pushP_iv(l:List Pc)(r:Pc):(fg l r).map A7=Iv.FZ (l.map A7) (A7 r):=by cases l with|nil=>(rfl)|cons q qs=>(simp only[fg,aR,Iv.FZ];(have:((!q.r.op&&q.r.hi==r.r.lo&&decide (q.s=r.s))=true) ↔ ((A7 q).1.2=some (A7 r).1.1/\(A7 q).2=(A7 r).2):=by simp only[A7,rp,aj,bT,beq_iff_eq,decide_eq_true_iff];cases q.r.op<;>simp);by_cases h:(!q.r.op&&q.r.hi==r.r.lo&&decide (q.s=r.s))=true;{rw[if_pos h,if_pos (this.1 h)];rfl};{rw[if_neg h,if_neg (fun e=>h (this.2 e))];rfl})
theorem XB(l:List Pc)(r:Pc):(fg l r).length<=l.length+1:=by cases l with|nil=>(simp[fg])|cons q qs=>(simp only[fg];split<;>simp)
def pI(es:List (List UInt8))(k:Nat):bc:=if k+1<es.length then⟨es[k]!,es[k+1]!,false⟩else⟨es[k]!,[],true⟩
def qk(P:List UInt8->List aH)(es:List (List UInt8)):Nat->List Pc|0=>[]|k+1=>if P (es[k]!)=[]then qk P es k else fg (qk P es k) ⟨pI es k,P (es[k]!)⟩
theorem Af(P:List UInt8->List aH)(es:List (List UInt8)): ∀k,(qk P es k).length<=k|0=>ae _|k+1=>by have h1:=Af P es k;have h2:=XB (qk P es k) ⟨pI es k,P (es[k]!)⟩;simp only[qk];split<;>omega
theorem wX{e:List (List UInt8)}(h:e.Pairwise (fun x y=>cI x y=true)){i j:Nat}(Bs:i<j)(hj:j<e.length):cI (e[i]!) (e[j]!)=true:=by rw[getElem!_pos e i (by omega),getElem!_pos e j hj];exact cb.1 h i j (by omega) hj Bs
structure ON(P:List UInt8->List aH)(es:List (List UInt8)):Prop where
 up:es.Pairwise (fun x y=>cI x y=true)
 nil: []∈es
 len: ∀e∈es,e.length<=17
 flat: ∀x e,e∈es->cI x e=false->(∀y∈es,cI e y=true->cI x y=true)->P x=P e
 right: ∀x,dm (P x)=true
theorem Lo(x:List UInt8):cI x []=false:=by cases x<;>rfl
theorem OO{P:List UInt8->List aH}{es:List (List UInt8)}(h:ON P es):es[0]! =[]/\0<es.length:=by obtain⟨i,hi,he⟩:=ec.1 h.nil;refine⟨?_,by omega⟩;rcases Nat.eq_zero_or_pos i with rfl|hp;{rw[getElem!_pos es 0 hi,he]};{have:=wX h.up hp hi;rw[getElem!_pos es i hi,he,Lo]at this;cases this}
theorem Sg{P:List UInt8->List aH}{es:List (List UInt8)}(h:ON P es){k:Nat}(hk:k<es.length):bu (pI es k)=true:=by have h1:=h.len (es[k]!) (by rw[getElem!_pos es k hk];exact ai _);unfold pI;by_cases hn:k+1<es.length;{have h2:=h.len (es[k+1]!) (by rw[getElem!_pos es (k+1) hn];exact ai _);rw[if_pos hn];exact vo h1 h2 (fun e=>by cases e) (fun _=>wX h.up (kP k) hn)};{rw[if_neg hn];exact vo h1 (by simp) (fun _=>rfl) (fun e=>by cases e)}
theorem rngE_lo{es:List (List UInt8)}{k:Nat}:(pI es k).lo=es[k]! :=by unfold pI;split<;>rfl
theorem XC{l:List Pc}{r:Pc}(hl: ∀p∈l,jn p=true)(hr:jn r=true): ∀p∈fg l r,jn p=true:=by cases l with|nil=>(intro p hp;simp only[fg,aP]at hp;subst hp;exact hr)|cons q qs=>(intro p hp;simp only[fg]at hp;split at hp;{rename_i hc;rcases aB.1 hp with rfl|hp;{have hq:=hl q (by simp);simp only[aj,bT,beq_iff_eq,decide_eq_true_iff]at hc;simp only[jn,aj]at hq hr⊢;refine⟨⟨?_,hq.1.2⟩,hq.2⟩;have a:=hq.1.1;have b:=hr.1.1;simp only[bu,aj,decide_eq_true_iff,hc.1.1,ar,if_false]at a b⊢;refine⟨⟨a.1.1,b.1.2⟩, ?_⟩;cases ho:r.r.op with|true=>(have:=b.2;rw[ho]at this;simpa using this)|false=>(have:=b.2;rw[ho]at this;simp only[ar,if_false]at this⊢;rw[<-hc.1.2]at this;exact e_ a.2 this)};{exact hl p (by simp[hp])}};{rcases aB.1 hp with rfl|hp;{exact hr};{exact hl p hp}})
theorem vD{P:List UInt8->List aH}{es:List (List UInt8)}(h:ON P es): ∀k,k<=es.length-> (∀p∈qk P es k,jn p=true)/\Iv.C9 cI ((qk P es k).map A7)/\(k<es.length->Iv.topL cI ((qk P es k).map A7) (es[k]!))/\∀x l,Iv.BE cI ((qk P es k).map A7) x l ↔ (0<k/\(k<es.length->cI x (es[k]!)=true))/\P x=l/\l≠ []|0,_=>⟨fun p hp=>(by cases hp),trivial,fun _=>trivial,fun x l=>⟨fun hi=>absurd hi Iv.rM,fun hi=>by omega⟩⟩|k+1,hk=>by obtain⟨h0,h1,h2,h3⟩:=vD h k (by omega);have n9:=h2 (by omega);(have hek:es[k]! ∈es:=by rw[getElem!_pos es k (by omega)];exact ai _);(have XD: ∀x,Iv.jG cI (rp (pI es k)) x=true ↔ (cI x (es[k]!)=false/\(k+1<es.length->cI x (es[k+1]!)=true)):=fun x=>by unfold pI;by_cases hn:k+1<es.length;{rw[if_pos hn];simp[Iv.jG,rp,Iv.below,hn]};{rw[if_neg hn];simp[Iv.jG,rp,Iv.below,hn]});(have zA: ∀x,Iv.jG cI (rp (pI es k)) x=true->P x=P (es[k]!):=fun x hx=>by obtain⟨a,b⟩:=(XD x).1 hx;refine h.flat x _ hek a fun y hy hly=> ?_;obtain⟨i,hi,rfl⟩:=ec.1 hy;have e:es[i]! =es[i]:=getElem!_pos _ i hi;rw[<-e]at hly⊢;rcases kj i k with hh|hh|hh;{have:=wX h.up hh (by omega);rw[kZ this]at hly;cases hly};{subst hh;rw[lt_irrefl]at hly;cases hly};{have hb:=b (by omega);rcases fP (show k+1<=i by omega)with hh'|hh';{exact e_ hb (wX h.up hh' hi)};{subst hh';exact hb}});(have qR: ∀x,(0<k+1/\(k+1<es.length->cI x (es[k+1]!)=true)) ↔ (0<k/\(k<es.length->cI x (es[k]!)=true))\/Iv.jG cI (rp (pI es k)) x=true:=fun x=>by rw[XD];constructor;{rintro⟨_,hb⟩;cases hx:cI x (es[k]!)with|false=>(exact .inr ⟨rfl,hb⟩)|true=>(refine .inl ⟨?_,fun _=>rfl⟩;rcases Nat.eq_zero_or_pos k with h0|h0;{subst h0;rw[(OO h).1,Lo]at hx;cases hx};{exact h0})};{rintro(⟨h4,h5⟩|⟨_,h5⟩);{exact⟨by omega,fun hn=>e_ (h5 (by omega)) (wX h.up (kP k) hn)⟩};{exact⟨by omega,h5⟩}});simp only[qk];by_cases hP:P (es[k]!)=[];{rw[if_pos hP];refine⟨h0,h1,fun hn=> ?_,fun x l=> ?_⟩;{revert n9;cases hm:(qk P es k).map A7 with|nil=>(intro _;trivial)|cons q qs=>(rintro⟨e,he,bh⟩;exact⟨e,he,Iv.pa uL (kZ (wX h.up (kP k) hn)) bh⟩)};{rw[h3,qR];constructor;{rintro⟨a,b⟩;exact⟨.inl a,b⟩};{rintro⟨a|a,b⟩;{exact⟨a,b⟩};{rw[zA x a,hP]at b;exact absurd b.1.symm b.2}}}};{rw[if_neg hP];have W8:=Sg h (k:=k) (by omega);(have gm:jn ⟨pI es k,P (es[k]!)⟩=true:=by simp only[jn,W8,h.right,aD,ck,bT];cases hPk:P (es[k]!)with|nil=>(exact absurd hPk hP)|cons _ _=>(rfl));obtain⟨g1,g2,q,qs,g3,g4⟩:=Iv.OM uL (r:=A7 ⟨pI es k,P (es[k]!)⟩) h1 (UW W8) (by show Iv.topL cI _ (pI es k).lo;rw[rngE_lo];exact n9);rw[<-pushP_iv]at g1 g2 g3;refine⟨fun p hp=>XC h0 gm p hp,g1,fun hn=> ?_,fun x l=> ?_⟩;{rw[g3];refine⟨es[k+1]!, ?_,lt_irrefl _⟩;rw[g4];show(rp (pI es k)).2=_;unfold pI;rw[if_pos hn];rfl};{rw[g2,h3,qR];constructor;{rintro(⟨a,b⟩|⟨a,b⟩);{exact⟨.inl a,b⟩};{have a':Iv.jG cI (rp (pI es k)) x=true:=a;have b':P (es[k]!)=l:=b;exact⟨.inr a',by rw[zA x a'];exact b',by rw[<-b'];exact hP⟩}};{rintro⟨a|a,b⟩;{exact .inl ⟨a,b⟩};{exact .inr ⟨a,by rw[<-zA x a];exact b.1⟩}}}}
theorem rN{P:List UInt8->List aH}{es:List (List UInt8)}(h:ON P es):(qk P es es.length).reverse=cS P/\IsP P:=by obtain⟨h0,h1,_,h3⟩:=vD h es.length (ae _);(have hr:cN (qk P es es.length).reverse=true:=by rw[ji];refine⟨fun p hp=>h0 p (kQ.1 hp), ?_⟩;rw[List.map_reverse];exact Iv.JH.2 h1);(have hs: ∀x l,vB (qk P es es.length).reverse x l ↔ P x=l/\l≠ []:=fun x l=>by unfold vB;rw[List.map_reverse,Iv.inL_rev,h3];have:=(OO h).2;exact⟨fun h=>h.2,fun h=>⟨⟨this,fun hn=>by omega⟩,h⟩⟩);exact⟨Ln hr hs,_,hr,hs⟩
set_option maxRecDepth 20000
set_option maxHeartbeats 4000000
theorem strI{q:IntKind}(l:List Int):((l.map (A.int q)).isEmpty||eR (l.map (A.int q))==1)=true:=by cases l<;>rfl
theorem JK{l:List Int}{n:Int}{k:Nat}(hk:k<=l.length)(hd:og l n=l.take k++n::l.drop k):k+1<=((l.take k).map (A.int .i64)++[A.int .i64 n]).length/\k+1+(l.length-k)<=(((l.take k).map (A.int .i64)++[A.int .i64 n]).take (k+1)++(l.drop k).map (A.int .i64)).length/\ (((l.take k).map (A.int .i64)++[A.int .i64 n]).take (k+1)++(l.drop k).map (A.int .i64)).take (k+1+(l.length-k))=(og l n).map (A.int .i64):=by (have e:((l.take k).map (A.int .i64)++[A.int .i64 n]).length=k+1:=by simp;omega);rw[ab (dq e)];(have e2:((l.take k).map (A.int .i64)++[A.int .i64 n]++(l.drop k).map (A.int .i64)).length=k+1+(l.length-k):=by rw[ag,e,aa,bU]);rw[ab (dq e2)];exact⟨by omega,by omega,by rw[hd];simp⟩
theorem OP(l:List Int)(n:Int)(hl:l.length<=1000000):bj Tryz.prog 271 [.aw (l.map (A.int .i64)),.int .i64 n] (· = .aw ((og l n).map (A.int .i64))):=by refine aF tQ mixed Tryz.func271 ?_;unfold Tryz.f271;simp-implicitDefEqProofs (disch:=first|omega|decide) only[go_sem,↓reduceIte,seval,aa];refine aW [0,1,4] (ι:={k:Nat//k<=l.length/\og l n=l.take k++og (l.drop k) n}) (fun p=>[(5,.int .i64 p.1)]) (fun _=>[]) (fun p=>l.length-p.1) ⟨0,by omega,rfl⟩ (ak _) ?_ ?_;{simp-implicitDefEqProofs (disch:=first|omega|decide) only[go_sem,↓reduceIte,seval]};{rintro⟨k,hk,hd⟩;simp only;by_cases bh:k<l.length;{(have aA:(k:Int)<(l.length:Int):=by omega);(have e1:(l.map (A.int .i64))[k]? =some (.int .i64 l[k]):=by rw[aQ,ad bh];rfl);(have tk:(l.take k).length=k:=by rw[az];omega);have t1:=(an bh).symm;rw[ao bh]at hd;generalize hx:l[k]=x at*;simp only[og]at hd;by_cases h1:x<n;{rw[if_pos h1]at hd;simp-implicitDefEqProofs (disch:=first|omega|decide) only[go_sem,↓reduceIte,seval,aA,e1,h1,wrap_i64,aa];exact⟨⟨k+1,bh,by rw[hd,t1,aX];rfl⟩,by simp,by show l.length-(k+1)<l.length-k;omega⟩};{rw[if_neg h1]at hd;cases h2:x==n with|true=>(simp-implicitDefEqProofs (disch:=first|omega|decide) only[go_sem,↓reduceIte,seval,aA,e1,h1,h2,wrap_i64,aa];(have hxn:x=n:=by simpa using h2);rw[if_pos hxn,<-hx,<-ao bh,bp]at hd;rw[hd])|false=>((have hxn:x≠n:=by simpa using h2);have l1:(l.take k).length=k:=tk;have l2:(l.drop k).length=l.length-k:=bU ..;simp-implicitDefEqProofs (disch:=first|omega|decide) only[go_sem,↓reduceIte,seval,aA,e1,h1,h2,wrap_i64,<-gq,<-jF,strI,aa,bD,l1,l2];obtain⟨c1,c2,c3⟩:=JK hk (by rw[hd,if_neg hxn,<-hx,<-ao bh]);exact⟨by omega,by omega,⟨by omega,by omega⟩,⟨by omega,by omega⟩,⟨c1,by omega⟩,c2,c3⟩)}};{(have aA: ¬(k:Int)<(l.length:Int):=by omega);(have l1:(l.take k).length=k:=by rw[az];omega);have l2:(l.drop k).length=l.length-k:=bU ..;have l3:l.drop k=[]:=aC (by omega);obtain⟨c1,c2,c3⟩:=JK hk (by rw[hd,l3];rfl);simp-implicitDefEqProofs (disch:=first|omega|decide) only[go_sem,↓reduceIte,seval,aA,wrap_i64,<-gq,<-jF,strI,aa,bD,l1,l2];exact⟨by omega,by omega,⟨by omega,by omega⟩,⟨by omega,by omega⟩,⟨c1,by omega⟩,c2,c3⟩}}
def XE:aN:=Ij.add 271 (entry (fun(v:List Int×Int)=>[.aw (v.1.map (A.int .i64)),.int .i64 v.2]) (fun v=>v.1.length<=1000000) (fun v=> .aw ((og v.1 v.2).map (A.int .i64))))
theorem U8:aI Tryz.prog XE:=tQ.en Tryz.func271 fun v h=>OP v.1 v.2 h
@[go_sem] theorem T13c_s:XE.nx Ij 271:=aN.Bw T13b_s.2
theorem F4(v:List Int×Int)(h:v.1.length<=1000000):XE.f 271 [.aw (v.1.map (A.int .i64)),.int .i64 v.2]=some (.aw ((og v.1 v.2).map (A.int .i64))):=aN.en (Γ:=Ij) v h
@[go_sem] theorem t_ref13_put{l:List Int}{n:Int}(h:l.length<=1000000):XE.f 271 [.aw (l.map (A.int .i64)),.int .i64 n]=some (.aw ((og l n).map (A.int .i64))):=F4 (l,n) h
def slI:List Int->A| []=> .dX|x::xs=> .aw ((x::xs).map (A.int .i64))
theorem slI_ne{l:List Int}(h:l≠ []):slI l= .aw (l.map (A.int .i64)):=by cases l with|nil=>(exact absurd rfl h)|cons x xs=>(rfl)
theorem BH{m:Nat}(l:List Int):(slI l).under m=true:=by cases l<;>rfl
@[go_sem] theorem view_slI{H:List Go.du.Obj}{l:List Int}:view H (slI l)=some (.aw (l.map (A.int .i64))):=by cases l<;>rfl
@[go_sem] theorem pure_slI{l:List Int}:(slI l).pure=true:=by cases l<;>rfl
theorem Ip(a b:List bG)(ha:a.length<=50000)(hb:b.length<=50000):bj Tryz.prog 246 [.aw (a.map bG.enc),.aw (b.map bG.enc)] (· = .aw ((df a b).map (A.int .i64))):=by refine aF U8 mixed Tryz.func246 ?_;unfold Tryz.f246;simp-implicitDefEqProofs (disch:=first|omega|decide) only[go_sem,↓reduceIte,seval,aa];refine aW [0,1,4] (ι:={k:Nat//k<=a.length}) (fun p=>[(6,.int .i64 p.1),(5,slI (jh [] (a.take p.1)))]) (fun _=>[]) (fun p=>a.length-p.1) ⟨0,by omega⟩ (ak _) ?_ ?_;{simp-implicitDefEqProofs (disch:=first|omega|decide) only[go_sem,↓reduceIte,seval];simp[jh,slI,A.under]};{rintro⟨k,hk⟩;simp only;have hlen:=tR [] (a.take k);(have Nl:(a.take k).length=k:=by rw[az];omega);by_cases bh:k<a.length;{(have aA:(k:Int)<(a.length:Int):=by omega);have e1:=run_get bh;have ht:a.take (k+1)=a.take k++[a[k]]:=(an bh).symm;generalize hx:a[k]=x at*;obtain⟨f,t⟩:=x;have hs:=C8 [] (a.take k) ⟨f,t⟩;rw[<-ht]at hs;generalize EX:jh [] (a.take k)=es at*;simp only[bo]at hlen;cases h1:fH ⟨f,t⟩with|false=>(rw[h1]at hs;simp-implicitDefEqProofs (disch:=first|omega|decide) only[go_sem,↓reduceIte,seval,aA,e1,h1,wrap_i64,aa];exact⟨⟨k+1,bh⟩,by simp[hs,BH],by show a.length-(k+1)<a.length-k;omega⟩)|true=>(rw[h1,if_pos rfl]at hs;obtain⟨o1,o2,o3⟩:=nK h1;simp only at o1 o2 o3 hs;have p1:=Ab es f;have mZ:=slI_ne (UZ (og es f) (t+1));simp-implicitDefEqProofs (disch:=first|omega|decide) only[go_sem,↓reduceIte,seval,aA,e1,h1,wrap_i64,aa];exact⟨⟨k+1,bh⟩,by simp[hs,mZ,A.under],by show a.length-(k+1)<a.length-k;omega⟩)};{(have aA: ¬(k:Int)<(a.length:Int):=by omega);rw[ab (by omega)]at*;simp-implicitDefEqProofs (disch:=first|omega|decide) only[go_sem,↓reduceIte,seval,aA,aa];generalize hea:jh [] a=ea at*;simp only[bo]at hlen;refine aW [1,4] (ι:={k:Nat//k<=b.length}) (fun p=>[(7,.int .i64 p.1),(5,slI (jh ea (b.take p.1)))]) (fun _=>[]) (fun p=>b.length-p.1) ⟨0,by omega⟩ (ak _) ?_ ?_;{simp-implicitDefEqProofs (disch:=first|omega|decide) only[go_sem,↓reduceIte,seval];simp[jh,BH]};{rintro⟨j,hj⟩;simp only;have hlen2:=tR ea (b.take j);(have htj:(b.take j).length=j:=by rw[az];omega);by_cases jO:j<b.length;{(have xJ:(j:Int)<(b.length:Int):=by omega);have e1:=run_get jO;have ht:b.take (j+1)=b.take j++[b[j]]:=(an jO).symm;generalize hx:b[j]=x at*;obtain⟨f,t⟩:=x;have hs:=C8 ea (b.take j) ⟨f,t⟩;rw[<-ht]at hs;generalize EX:jh ea (b.take j)=es at*;cases h1:fH ⟨f,t⟩with|false=>(rw[h1]at hs;simp-implicitDefEqProofs (disch:=first|omega|decide) only[go_sem,↓reduceIte,seval,xJ,e1,h1,wrap_i64,aa];exact⟨⟨j+1,jO⟩,by simp[hs,BH],by show b.length-(j+1)<b.length-j;omega⟩)|true=>(rw[h1,if_pos rfl]at hs;obtain⟨o1,o2,o3⟩:=nK h1;simp only at o1 o2 o3 hs;have p1:=Ab es f;have mZ:=slI_ne (UZ (og es f) (t+1));simp-implicitDefEqProofs (disch:=first|omega|decide) only[go_sem,↓reduceIte,seval,xJ,e1,h1,wrap_i64,aa];exact⟨⟨j+1,jO⟩,by simp[hs,mZ,A.under],by show b.length-(j+1)<b.length-j;omega⟩)};{(have xJ: ¬(j:Int)<(b.length:Int):=by omega);rw[ab (by omega)]at*;(have mZ:jh ea b=df a b:=by rw[<-hea];rfl);simp-implicitDefEqProofs (disch:=first|omega|decide) only[go_sem,↓reduceIte,seval,xJ,mZ,aa]}}}}
def XF:aN:=XE.add 183 (entry (fun(v:List bG×Int)=>[.aw (v.1.map bG.enc),.int .i64 v.2]) (fun v=>v.1.length<=4611686018427387904) (fun v=> .bool (a_ v.1 v.2)))
theorem T13d_ok:aI Tryz.prog XF:=U8.en Tryz.func183 fun v h=>OC v.1 v.2 h
theorem F5(v:List bG×Int)(h:v.1.length<=4611686018427387904):XF.f 183 [.aw (v.1.map bG.enc),.int .i64 v.2]=some (.bool (a_ v.1 v.2)):=aN.en (Γ:=XE) v h
@[go_sem] theorem t_ref13_Has{l:List bG}{n:Int}(h:l.length<=4611686018427387904):XF.f 183 [.aw (l.map bG.enc),.int .i64 n]=some (.bool (a_ l n)):=F5 (l,n) h
def Sh:aN:=XF.add 246 (entry (fun(v:List bG×List bG)=>[.aw (v.1.map bG.enc),.aw (v.2.map bG.enc)]) (fun v=>v.1.length<=50000/\v.2.length<=50000) (fun v=> .aw ((df v.1 v.2).map (A.int .i64))))
theorem U9:aI Tryz.prog Sh:=T13d_ok.en Tryz.func246 fun v h=>Ip v.1 v.2 h.1 h.2
@[go_sem] theorem T13e_s:Sh.nx XF 246:=⟨fun _ _ h=>aN.aV h,fun _=>rfl,fun _=>rfl,rfl,fun _=>rfl,rfl,fun _=>rfl,rfl⟩
theorem BI(v:List bG×List bG)(h:v.1.length<=50000/\v.2.length<=50000):Sh.f 246 [.aw (v.1.map bG.enc),.aw (v.2.map bG.enc)]=some (.aw ((df v.1 v.2).map (A.int .i64))):=aN.en (Γ:=XF) v h
@[go_sem] theorem t_ref13_Edges{a b:List bG}(h:a.length<=50000/\b.length<=50000):Sh.f 246 [.aw (a.map bG.enc),.aw (b.map bG.enc)]=some (.aw ((df a b).map (A.int .i64))):=BI (a,b) h
theorem F6{α:List A}{x v:A}: ∀{l:List A},fE (l++[x]) l.length v=l++[v]| []=>rfl|y::l=>by simp only[bA,ay,fE,F6 (α:=α)]
theorem mF{x:A}: ∀{l:List A},(l++[x])[l.length]? =some x| []=>rfl|y::l=>by simp[mF]
theorem U_{l:List Int}{k:Nat}(h:k<l.length):(l.map (A.int .i64))[k]? =some (.int .i64 (l[k]!)):=by rw[aQ,ad h,getElem!_pos l k h];rfl
def sJ(acc:List bG):List A:=acc.reverse.map bG.enc
theorem wY(q:bG)(qs:List bG):sJ (q::qs)=sJ qs++[.agg [.int .i64 q.f,.int .i64 q.t]]:=by simp[sJ,bG.enc,bG.cells]
theorem Ag(l:List bG):(sJ l).length=l.length:=by simp[sJ]
theorem OQ:sJ []=[]:=rfl
def OR(op:Int):Prop:=op=1\/op=2\/op=3
theorem Lp(op:Int)(a b:List bG)(ho:OR op)(ha:a.length<=50000)(hb:b.length<=50000):bj Tryz.prog 223 [.int .i64 op,.aw (a.map bG.enc),.aw (b.map bG.enc)] (· = .aw ((fS (nS op a b)).map bG.enc)):=by refine aF U9 mixed Tryz.func223 ?_;unfold Tryz.f223;have hel:=FV a b;have mY:=Lk op a b;have Ah:=Ac op a b;have XA:=pd a b;have hrng: ∀k,k<(df a b).length->1<=(df a b)[k]! /\(df a b)[k]! <=1099511627777:=fun k hk=>tS (a:=a) (b:=b) (by rw[getElem!_pos _ k hk];exact ai _);simp-implicitDefEqProofs (disch:=first|omega|decide) only[go_sem,↓reduceIte,seval,aa,ha,hb];generalize he:df a b=e at*;refine bZ 8 2 rfl ?_;refine aW [0,1,2,6,7] (ι:={k:Nat//k<=e.length-1}) (fun p=>[(9,.int .i64 p.1),(8,.row 0 0 2 (BD (nS op a b) e p.1).length false)]) (fun p=>[(0,.row 2 (sJ (BD (nS op a b) e p.1)))]) (fun p=>e.length-p.1) ⟨0,by omega⟩ (ak _) ?_ ?_;{simp-implicitDefEqProofs (disch:=first|omega|decide) only[go_sem,↓reduceIte,seval,BD,OQ];done};{rintro⟨k,hk⟩;simp only;have hlen:=Lj (nS op a b) e k;by_cases bh:k+1<e.length;{(have aA:(k:Int)+1<(e.length:Int):=by omega);have e1:=U_ (l:=e) (k:=k) (by omega);have e2:=U_ (l:=e) (k:=k+1) bh;obtain⟨s1,s2,s3,s4⟩:=Ah k (by omega);have BJ:=yA XA (kP k) bh;have r1:=hrng k (by omega);have r2:=hrng (k+1) bh;have hmk:BD (nS op a b) e (k+1)=if nS op a b (e[k]!)then fY (BD (nS op a b) e k) ⟨e[k]!,e[k+1]! -1⟩else BD (nS op a b) e k:=rfl;generalize hx:e[k]! =x at*;generalize hy:e[k+1]! =y at*;generalize hm:BD (nS op a b) e k=m at*;have hP:nS op a b x=opF op (a_ a x) (a_ b x):=rfl;(have t1:((k:Int)+1).toNat=k+1:=by omega);(have t2:(0:Int)<=(k:Int)+1:=by omega);(have t3:(0:Int)<=(k:Int):=by omega);(have skip:nS op a b x=false->BD (nS op a b) e (k+1)=m:=fun h=>by rw[hmk,h];rfl);have fin: ∀m',BD (nS op a b) e (k+1)=m'-> ∃j:{k:Nat//k<=e.length-1},(((k:Int)+1=(j.1:Int)/\m'.length=(BD (nS op a b) e j.1).length)/\sJ m'=sJ (BD (nS op a b) e j.1))/\e.length-j.1<e.length-k:=fun m' nQ=>⟨⟨k+1,by omega⟩,⟨⟨by simp,by rw[nQ]⟩,by rw[nQ]⟩,by show e.length-(k+1)<e.length-k;omega⟩;cases hp:nS op a b x with|false=>(have hs:=skip hp;rcases ho with rfl|rfl|rfl<;>cases hax:a_ a x<;>cases hbx:a_ b x<;>rw[hax,hbx]at hP<;>simp[opF,hp]at hP<;>simp-implicitDefEqProofs (maxSteps:=9^6) (disch:=first|omega|decide) only[go_sem,↓reduceIte,seval,aA,e1,e2,hax,hbx,t1,t2,t3,wrap_i64,aa];all_goals exact fin m hs)|true=>((have hs:BD (nS op a b) e (k+1)=fY m ⟨x,y-1⟩:=by rw[hmk,hp];rfl);have qT:=fin _ hs;cases m with|nil=>(rw[OQ];rcases ho with rfl|rfl|rfl<;>cases hax:a_ a x<;>cases hbx:a_ b x<;>rw[hax,hbx]at hP<;>simp[opF,hp]at hP<;>simp-implicitDefEqProofs (maxSteps:=9^6) (disch:=first|omega|decide) only[go_sem,↓reduceIte,seval,aA,e1,e2,hax,hbx,t1,t2,t3,wrap_i64,aa];all_goals exact qT)|cons q qs=>(have hqt:q.t<x:=s2;rw[wY]at*;have hlq:qs.length+1<=k:=hlen;(have c0:(0:Int)<((qs.length+1:Nat):Int):=by omega);(have c1:(((qs.length+1:Nat):Int)-1).toNat=qs.length:=by omega);(have c2:(0:Int)<=((qs.length+1:Nat):Int)-1:=by omega);(have c3:((qs.length+1:Nat):Int)-1<((qs.length+1:Nat):Int):=by omega);(have g1:(sJ qs++[A.agg [.int .i64 q.f,.int .i64 q.t]])[qs.length]? =some (.agg [.int .i64 q.f,.int .i64 q.t]):=by have:=mF (x:=A.agg [.int .i64 q.f,.int .i64 q.t]) (l:=sJ qs);rwa [Ag]at this);(have g2: ∀v,fE (sJ qs++[A.agg [.int .i64 q.f,.int .i64 q.t]]) qs.length v=sJ qs++[v]:=fun v=>by have:=F6 (x:=A.agg [.int .i64 q.f,.int .i64 q.t]) (v:=v) (l:=sJ qs) (α:=[]);rwa [Ag]at this);(have gl:(sJ qs++[A.agg [.int .i64 q.f,.int .i64 q.t]]).length=qs.length+1:=by rw[ag,Ag];rfl);have gt:(sJ qs++[A.agg [.int .i64 q.f,.int .i64 q.t]]).take (qs.length+1)=sJ qs++[A.agg [.int .i64 q.f,.int .i64 q.t]]:=ab (dq gl);cases hq:(q.t==x-1)with|true=>((have Nk:q.t=x-1:=by simpa using hq);(have Lq:fY (q::qs) ⟨x,y-1⟩=⟨q.f,y-1⟩::qs:=by simp only[fY];rw[if_pos (by omega),if_pos (by omega)]);rw[Lq,wY]at qT;rcases ho with rfl|rfl|rfl<;>cases hax:a_ a x<;>cases hbx:a_ b x<;>rw[hax,hbx]at hP<;>simp[opF,hp]at hP<;>simp-implicitDefEqProofs (maxSteps:=9^6) (disch:=first|omega|decide) only[go_sem,↓reduceIte,seval,aA,e1,e2,hax,hbx,t1,t2,t3,c0,c1,c2,c3,g1,g2,hq,wrap_i64,aa];all_goals exact qT)|false=>((have Nk:q.t≠x-1:=by simpa using hq);(have Lq:fY (q::qs) ⟨x,y-1⟩=⟨x,y-1⟩::q::qs:=by simp only[fY];rw[if_neg (by omega)]);rw[Lq,wY,wY]at qT;rcases ho with rfl|rfl|rfl<;>cases hax:a_ a x<;>cases hbx:a_ b x<;>rw[hax,hbx]at hP<;>simp[opF,hp]at hP<;>simp-implicitDefEqProofs (maxSteps:=9^6) (disch:=first|omega|decide) only[go_sem,↓reduceIte,seval,aA,e1,e2,hax,hbx,t1,t2,t3,c0,c1,c2,c3,g1,g2,gl,gt,hq,wrap_i64,aa];all_goals exact⟨⟨ae _,by omega⟩,qT⟩)))};{(have aA: ¬(k:Int)+1<(e.length:Int):=by omega);(have wH:k=e.length-1:=by omega);subst wH;(have mZ:(sJ (BD (nS op a b) e (e.length-1)))=(fS (nS op a b)).map bG.enc:=by unfold sJ;rw[mY]);(have JL:(BD (nS op a b) e (e.length-1)).length=(sJ (BD (nS op a b) e (e.length-1))).length:=by rw[Ag]);simp-implicitDefEqProofs (disch:=first|omega|decide) only[go_sem,↓reduceIte,seval,aA,wrap_i64,JL,aa,bD];rw[mZ];exact⟨ae _,rfl⟩}}
end Go.Proofs.YtfnohjheonlnmaaGreat
namespace Go.du
theorem XG{P:Program}{f:FuncId}{xs:List A}{S:List Nat}(k:Nat)(h:jm P f xs [] .dX [] S):jm P f xs [] (.row 0 0 k 0 false) [.row k []] S:=by intro N φ w vs hN mP dW gh;refine Calls.mono (h N φ w vs hN mP dW gh) ?_;rintro e w' ⟨v,kh,rfl,hv,hrel',ht,hl⟩;have e1:φ=[]:=aU.1 mP.len;have e2:kh=[]:=aU.1 hrel'.len;subst e1;subst e2;refine⟨v,[.nil],rfl, ?_, ?_, ?_,ak _⟩;{simp only[bW]at hv⊢;exact .inl ⟨.nil,rfl,by simp,trivial,fun _=>trivial,none,hv⟩};{exact{len:=rfl,gO:=fun n o p ho hp=>by cases n with|succ n=>(simp[fe]at ho)|zero=>(simp only[fe,bf]at ho;simp at hp;subst ho;subst hp;simp[cg]),own:=fun n b k' hn=>by cases n<;>simp at hn,inj:=fun n m b k' HV hn=>by cases n<;>simp at hn}};{exact{os:=ht.os,tape:=ht.tape,output:=ht.output,drawn:=ht.drawn,size:=ht.size,block:=ht.block,shape:=ht.shape,own:=fun n b k' hn=>by cases n<;>simp at hn,stay:=fun n p _ hn=>by simp at hn}}
theorem XH{P:Program}{f:FuncId}{H H':List Obj}{r:A}{S:List Nat}(h1:jm P f [.emp true] H r H' S)(h2:jm P f [.emp false] H r H' S):jm P f [.aw []] H r H' S:=fun N φ w vs hN mP dW hr=>by simp only[cJ,bW]at hr;obtain⟨v,_,rfl,⟨_,a,cap,rfl,_,_⟩,rfl⟩:=hr;cases a with|none=>(exact h1 N φ w _ hN mP dW (by simp only[cJ,bW];exact⟨_,_,rfl,⟨none,cap,rfl,rfl⟩,rfl⟩))|some q=>(exact h2 N φ w _ hN mP dW (by simp only[cJ,bW];exact⟨_,_,rfl,⟨some q,cap,rfl,rfl⟩,rfl⟩))
theorem F7{P:Program}{f:FuncId}{xs ys:List A}{r:A}(h:bj P f ys (· =r))(hx: ∀(E:Env) (vs:List Value),cJ E xs vs->cJ E ys vs)(hp:r.pure=true):jm P f xs [] r [] []:=by intro N φ w vs hN mP dW gh;have e1:φ=[]:=aU.1 mP.len;subst e1;(have Si: ∀b,(bz N [] w).N b->b<w.heap.size:=fun b hb=>by rcases hb with hb|⟨n,k,hn⟩;{exact hN b hb};{simp at hn});refine Calls.mono (h (bz N [] w).N w vs Si (hx _ _ gh)) ?_;rintro e w' ⟨v,r',rfl,rfl,hr,hg⟩;refine⟨v,[],rfl, ?_, ?_, ?_,ae _⟩;{exact hr};{exact{len:=rfl,gO:=fun n o p ho=>by cases n<;>simp[fe]at ho,own:=fun n b k hn=>by simp at hn,inj:=fun n m b k k' hn=>by simp at hn}};{exact{os:=hg.os,tape:=hg.tape,output:=hg.output,drawn:=hg.drawn,size:=hg.size,block:=fun b hb _=>hg.block b hb,shape:=fun b c e fr hb=>⟨c,fr,by rw[hg.block b (bQ.1 hb).1];exact hb,rfl⟩,own:=fun n b k hn=>by simp at hn,stay:=fun n p _ hn=>hn}}
theorem Lr{E:Env}{es:List A}{v:Value}(h:bW E (.clip es) v):bW E (.aw es) v:=by simp only[bW]at h⊢;obtain⟨hp,a,hv,hl⟩:=h;exact⟨hp,a,_,hv,ae _,hl⟩
theorem mG{x v:A}: ∀{l:List A},fE (l++[x]) l.length v=l++[v]| []=>rfl|y::l=>by simp only[bA,ay,fE,mG]
theorem mF{x:A}: ∀{l:List A},(l++[x])[l.length]? =some x| []=>rfl|y::l=>by simp[mF]
open Go.RowKit
structure OS(b:Nat)(D:List Value)(w w':World):Prop where
 os:w'.os=w.os
 tape:w'.tape=w.tape
 output:w'.output=w.output
 drawn:w.drawn<=w'.drawn
 size:w.heap.size<=w'.heap.size
 block: ∀c,c<w.heap.size->c≠b->w'.heap[c]? =w.heap[c]?
 self: ∀(cc:Array Value) (e:TypeId) (fr:Nat×Nat),w.heap[b]? =some (.cells cc e fr)-> ∃NM,w'.heap[b]? =some (.cells NM e fr)/\NM.size=cc.size
 cells:w'.rangeAt b 0 D
theorem Ai{P:Program}{f g:FuncId}{k:Nat}{c:Bool}{es Du:List A}{D:List Value}(hk:0<k)(hD: ∀E,bJ E k Du D)(hp:A.pure.cY Du=true)(h1: ∀u∈D,u.oneCell'=true)(hlen:Du.length=es.length)(KR:es=[]-> ∀(w:World) (q:Option Addr) (cap:Nat),Calls P f #[.slice q 0 cap,.func (.func g) #[] #[]] w fun e w'=>e= .returned (.tuple #[])/\w'=w)(u_: ∀(E:Env) (b cap:Nat) (cc:Array Value) (e:TypeId) (fr:Nat×Nat),es≠ []->E.w.heap[b]? =some (.cells cc e fr)->ss cc fr->j0 E k b 0 es->k*cap<=cc.size->es.length<=cap->Calls P f #[.slice (some ⟨b,0,none⟩) es.length cap,.func (.func g) #[] #[]] E.w fun e w'=>e= .returned (.tuple #[])/\OS b D E.w w'):jm P f [.row 0 0 k es.length c,.fn g []] [.row k es] (.eV []) [.row k Du] []:=by intro N φ w vs hN mP dW gh;simp only[cJ]at gh;obtain⟨v0,_,rfl,hv0,v1,_,rfl,hv1,rfl⟩:=gh;simp only[bW,cJ]at hv1;obtain⟨us,rfl,rfl⟩:=hv1;have hφl:φ.length=1:=mP.len;(have stay: ∀(w':World),w'=w-> ∃v kh,(Ending.returned (.tuple #[]):Ending)= .returned v/\bW (bz N kh w') (.eV []) v/\tw N kh [.row k es] w'/\NV φ w [] kh w'/\1<=1:=by rintro w' rfl;exact⟨_,φ,rfl,by simp[bW,cJ],mP,⟨rfl,rfl,rfl,ae _,ae _,fun _ _ _=>rfl,fun _ c _ fr h=>⟨c,fr,h,rfl⟩,fun n b k hn=> .inr ⟨n,k,hn⟩,fun _ _ _ h=>h⟩,ae _⟩);(have zO:es=[]-> ∀(q:Option Addr) (cap:Nat),Calls P f #[.slice q 0 cap,.func (.func g) #[] #[]] w fun e w'=> ∃v kh,e= .returned v/\bW (bz N kh w') (.eV []) v/\tw N kh [.row k Du] w'/\NV φ w [] kh w'/\ [Obj.row k es].length<=[Obj.row k Du].length:=by intro EX q cap;(have hes':Du=es:=by subst EX;exact aU.1 (by simpa using hlen));rw[hes'];refine Calls.mono (KR EX w q cap) ?_;rintro e w' ⟨rfl,hw⟩;exact stay w' hw);by_cases EX:es=[];{(have hl0:es.length=0:=by rw[EX];rfl);simp only[bW]at hv0;rcases hv0 with⟨o,_,_,_,_,q,rfl⟩|⟨b,cap,c',e',fr,lk,rfl,wA,_,hb,H7⟩;{exact zO EX q 0};{rw[hl0];exact zO EX _ cap}};{simp only[bW]at hv0;rcases hv0 with⟨o,_,_,h0,_⟩|⟨b,cap,c',e',fr,lk,rfl,wA,_,hb,H7⟩;{exact absurd (aU.1 h0) EX};{have lp:=mP.gO 0 (.row k es) (.loc b k) rfl lk;simp only[cg]at lp;obtain⟨_,QT,⟨cc,ee,ffr,QU,XI⟩,hE⟩:=lp;have u5:w.heap[b]? =some (.cells c' e' fr):=hb;have u9:w.heap[b]? =some (.cells cc ee ffr):=QU;rw[u5]at u9;simp only[bf,Go.Obj.cells.injEq]at u9;obtain⟨rfl,rfl,rfl⟩:=u9;rw[Nat.zero_mul]at H7⊢;refine Calls.mono (u_ (bz N φ w) b cap c' e' fr EX u5 XI hE (by omega) wA) ?_;rintro e w' ⟨rfl,hT⟩;obtain⟨NM,u9,qw⟩:=hT.self c' e' fr u5;have hwid:w'.heap.size>=w.heap.size:=hT.size;refine⟨_,φ,rfl,by simp[bW,cJ], ?_, ?_,ae _⟩;{exact{len:=by simpa using hφl,gO:=fun n o p ho xC=>by cases n with|succ n=>(simp[fe]at ho)|zero=>(simp only[fe,bf]at ho;subst ho;have KG:φ[0]? =some (iu.loc b k):=lk;rw[KG]at xC;obtain rfl:=ah xC;simp only[cg];refine⟨trivial,hp,⟨NM,e',fr,u9,fun j hj=>XI j (by omega)⟩, ?_⟩;exact bJ.mem (hD (bz N φ w')) hT.cells h1),own:=fun n b' k' hn=>⟨cL (mP.own n b' k' hn).1 hT.size,(mP.own n b' k' hn).2⟩,inj:=mP.inj}};{exact{os:=hT.os,tape:=hT.tape,output:=hT.output,drawn:=hT.drawn,size:=hT.size,block:=fun b' u5 ry=>hT.block b' u5 fun e=>by subst e;exact ry 0 k lk,shape:=fun b' c₁ e₁ fr₁ h₁=>by by_cases hbb:b'=b;{subst hbb;obtain⟨c₂,h₂,h₃⟩:=hT.self c₁ e₁ fr₁ h₁;exact⟨c₂,fr₁,h₂,h₃⟩};{have:b'<w.heap.size:=(bQ.1 h₁).1;exact⟨c₁,fr₁,by rw[hT.block b' this hbb];exact h₁,rfl⟩},own:=fun n b' k' hn=> .inr ⟨n,k',hn⟩,stay:=fun _ _ _ h=>h}}}}
def mR:A->Value| .int k n=> .int k n| .bool b=> .bool b| .str s=> .string ⟨s.toArray⟩|_=>undef
def scalar:A->Bool| .int _ _=>true| .bool _=>true| .str _=>true|_=>false
theorem pe{E:Env}{x:A}{v:Value}(h:scalar x=true):bW E x v ↔ v=mR x:=by cases x<;>simp[scalar]at h<;>simp[bW,mR]
theorem yB{x:A}(h:scalar x=true):(mR x).oneCell'=true:=by cases x<;>simp[scalar]at h<;>rfl
theorem Da{x:A}(h:scalar x=true):x.pure=true:=by cases x<;>simp[scalar]at h<;>simp[A.pure]
theorem ql{E:Env}: ∀{xs:List A},(∀x∈xs,scalar x=true)->cJ E xs (xs.map mR)| [],_=>by simp[cJ]|x::xs,h=>by simp only[aR,cJ];exact⟨_,_,rfl,(pe (h x (by simp))).2 rfl,ql fun y hy=>h y (by simp[hy])⟩
theorem xK: ∀{xs:List A},(∀x∈xs,scalar x=true)->A.pure.cY xs=true| [],_=>rfl|x::xs,h=>by simp only[A.pure.cY,aj];exact⟨Da (h x (by simp)),xK fun y hy=>h y (by simp[hy])⟩
theorem Db{α:Type}{k:Nat}(hk:0<k): ∀{ls:List (List α)},(∀l∈ls,l.length=k)-> ∀j:Nat,ls.flatten[j]? =(ls[j/k]?).bind fun l=>l[j % k]?| [],_,j=>by simp|l::ls,h,j=>by have hl:=h l (by simp);rw[iW];by_cases hj:j<k;{rw[cn (by omega),Nat.div_eq_of_lt hj,Nat.mod_eq_of_lt hj];simp};{rw[b_ (by omega),Db hk (fun x hx=>h x (by simp[hx])) (j-l.length),hl];(have h1:j/k=(j-k)/k+1:=by rw[Nat.div_eq_sub_div hk (by omega)]);(have h2:j % k=(j-k) % k:=by rw[Nat.mod_eq_sub_mod (by omega)]);rw[h1,h2];simp}
theorem Dc{E:Env}{k:Nat}{β:Type}{enc:β->List A}(hk: ∀x,(enc x).length=k)(hs: ∀x,∀a∈enc x,scalar a=true): ∀l:List β,bJ E k (l.map fun x=> .agg (enc x)) ((l.map fun x=>(enc x).map mR).flatten)| []=>by simp[bJ]|x::l=>by (have h1:((enc x).map mR).length=k:=by rw[aa,hk]);simp only[aR,bJ,A.cells,iW];refine⟨hk x,by rw[ag];omega, ?_, ?_⟩;{rw[cB (by omega),ab (by omega)];exact ql (hs x)};{rw[er (by omega),aC (by omega)];exact Dc hk hs l}
theorem F8{E:Env}{β:Type}{enc:β->A}(hs: ∀x,scalar (enc x)=true): ∀l:List β,bJ E 1 (l.map enc) (l.map fun x=>mR (enc x))| []=>by simp[bJ]|x::l=>by (have hc:(enc x).cells=[enc x]:=by have:=hs x;cases h:enc x<;>rw[h]at this<;>simp[scalar]at this<;>rfl);simp only[aR,bJ,hc];refine⟨rfl,by simp, ?_, ?_⟩;{simp only[ie,i_,cJ];exact⟨_,[],rfl,(pe (hs x)).2 rfl,rfl⟩};{simpa using F8 hs l}
theorem BK{β:Type}{f:β->A}(h: ∀x,(f x).pure=true): ∀l:List β,A.pure.cY (l.map f)=true| []=>rfl|x::l=>by simp[A.pure.cY,h x,BK h l]
open Go.Sort in theorem JM{w w':World}(g:j5 w w'): ∃q os,w'=Sort.grow (w.drewN q) os:=by refine⟨w'.drawn-w.drawn,w'.heap.extract w.heap.size w'.heap.size, ?_⟩;(have hh:w.heap++w'.heap.extract w.heap.size w'.heap.size=w'.heap:=by have qw:=g.size;apply Array.ext_getElem?;intro i;by_cases hi:i<w.heap.size;{rw[fK hi,g.block i hi]};{rw[Array.getElem?_append_right (by omega),Array.getElem?_extract];by_cases h2:i<w'.heap.size;{rw[if_pos (by omega),show w.heap.size+(i-w.heap.size)=i by omega]};{rw[if_neg (by omega),Array.getElem?_eq_none (by omega)]}});have hd:=g.drawn;unfold Sort.grow World.drewN;rw[show w.drawn+(w'.drawn-w.drawn)=w'.drawn by omega];obtain⟨heap,tape,drawn,os,output⟩:=w';have h1:=g.os;have h2:=g.tape;have h3:=g.output;simp only at h1 h2 h3 hh⊢;rw[hh,h1,h2,h3]
open Go.Sort in
theorem Dd{w:World}{b n:Nat}{F F0:Array Value}{os:Array Go.Obj}(h0:Holds id w b 0 F0)(hs:F.size=F0.size)(hb:b<w.heap.size):OS b F.toList w (Sort.grow (putRow id (Sort.ahead w n) b 0 F) os) where
 os:=rfl
 tape:=rfl
 output:=rfl
 drawn:=Nat.le_add_right _ _
 size:=by show w.heap.size<=((w.heap.modify b _)++os).size;simp
 block:=fun c hc eF=>by show((w.heap.modify b _)++os)[c]? =_;rw[fK (by simpa using hc),Array.getElem?_modify,if_neg (fq eF)]
 self:=fun cc e fr QU=>by
  refine⟨putCells id 0 F cc, ?_,by simp[putCells]⟩
  show((w.heap.modify b _)++os)[b]? =_;rw[fK (by simpa using hb),Array.getElem?_modify,if_pos rfl,QU]
  rfl
 cells:=fun j v hj=>by
  have hjF:j<F.size:=by have:=(ax.1 hj).1;simpa using this
  have h1:=cell?_putRow id (Sort.ahead w n) b 0 F0 F (holds_ahead id w n b 0 F0 h0) hs j hjF
  have h2:(Sort.grow (putRow id (Sort.ahead w n) b 0 F) os).cell? ⟨b,0+j,none⟩=(putRow id (Sort.ahead w n) b 0 F).cell? ⟨b,0+j,none⟩:=by
   unfold World.cell?;show(match((putRow id (Sort.ahead w n) b 0 F).heap++os)[b]? with|some (.cells c _ _)=>_|_=>none)=_;rw[fK (by simpa using hb)]
   rfl
  rw[h2,h1]
  have:F[j]! =v:=by
   rw[getElem!_pos F j hjF]
   have:=(ax.1 hj).2;simpa using this
  rw[this];rfl
theorem De{w:World}{b:Nat}{c:Array Value}{e:TypeId}{fr:Nat×Nat}(hb:w.heap[b]? =some (.cells c e fr))(hf:ss c fr){j:Nat}(hj:j<c.size):w.frozen? ⟨b,j,none⟩=false:=by have:=(u7 (w:=w) (b:=b) (off:=j) (n:=1) hb hf (by omega) 0 (by omega)).2;simpa using this
def il{β:Type} [Inhabited β](cf:β->β->Int)(l:List β):List β:=(Sort.pdq (Go.Proofs.ltOf cf) l.toArray 0 l.toArray.size (Lib.bitLen l.toArray.size) true true).toList
theorem jj{β:Type} [Inhabited β]{cf:β->β->Int}(hO:Sort.SWO (Go.Proofs.ltOf cf))(l:List β):(il cf l).Perm l/\(il cf l).Pairwise (fun x y=> ¬cf y x<0):=by obtain⟨⟨h1,_,h3⟩,h4⟩:=Sort.pdq_sorts (Go.Proofs.ltOf cf) hO l.toArray 0 l.toArray.size (Lib.bitLen l.toArray.size) true true (ak _) (ae _) (Or.inl rfl);refine⟨?_, ?_⟩;{unfold il;(have e: ∀d:Array β,d.size=l.toArray.size->d.extract 0 l.toArray.size=d:=fun d hd=>by rw[<-hd];simp);rw[e _ h1,e _ rfl]at h3;simpa using h3};{unfold il;rw[cb];intro i j hi hj Bs;(have A6:j<l.toArray.size:=by rw[<-h1];simpa using hj);have:=h4 i j (ak _) Bs A6;(have hi2:i<(Sort.pdq (Go.Proofs.ltOf cf) l.toArray 0 l.toArray.size (Lib.bitLen l.toArray.size) true true).size:=by simpa using hi);(have hj2:j<(Sort.pdq (Go.Proofs.ltOf cf) l.toArray 0 l.toArray.size (Lib.bitLen l.toArray.size) true true).size:=by simpa using hj);rw[getElem!_pos _ i hi2,getElem!_pos _ j hj2]at this;simpa[Go.Proofs.ltOf]using this}
open Go.Shelf Go.Lib Go.Sort Go.Proofs in
/-- slices.SortFunc of structs, by a function that captures nothing. -/
theorem vE{P:Program}{ρ:Ren}{β:Type} [Inhabited β](L:SlLaysF0.n6 P ρ){k:Nat}(zw:0<k)(aE: ∀w,(isAgg (ρ.t 24)).run P w= .ok true w)(zE: ∀w,(Go.sizeOf (ρ.t 24)).run P w= .ok k w)(enc:β->List A)(hk: ∀x,(enc x).length=k)(hs: ∀x,∀a∈enc x,scalar a=true)
 (cf:β->β->Int) (hO:SWO (ltOf cf)) {g:FuncId} (hg:nZ P g) (hcmp: ∀x y,bj P g [.agg (enc x),.agg (enc y)] (· = .int .i64 (cf x y))) (l:List β) (qw:l.length<4611686018427387904) (c:Bool):
 jm P (ρ.f 6) [.row 0 0 k l.length c,.fn g []] [.row k (l.map fun x=> .agg (enc x))] (.eV []) [.row k ((il cf l).map fun x=> .agg (enc x))] []:=by
 have hperm:=(jj hO l).1;have Sj:(l.map fun x=>A.agg (enc x)).length=l.length:=aa _;have hle: ∀x,((enc x).map mR).length=k:=fun x=>by rw[aa,hk]
 have gm: ∀x,∀v∈(enc x).map mR,v.oneCell'=true:=fun x v hv=>by obtain⟨a,ha,rfl⟩:=bV.1 hv;exact yB (hs x a ha)
 have:=Ai (P:=P) (f:=ρ.f 6) (g:=g) (k:=k) (c:=c) (es:=l.map fun x=>A.agg (enc x)) (Du:=(il cf l).map fun x=>A.agg (enc x)) (D:=((il cf l).map fun x=>(enc x).map mR).flatten) zw
  (fun E=>Dc hk hs _) (BK (fun x=>by simp only[A.pure];exact xK (hs x)) _) (fun u hu=>by obtain⟨ys,CE,hu⟩:=List.mem_flatten.1 hu;obtain⟨x,_,rfl⟩:=bV.1 CE;exact gm x u hu) (by rw[aa,aa];exact hperm.length_eq)
  (fun _ w q cap=>AnyF.slices_SortFunc_none L q cap _ w) ?_
 · rw[Sj]at this;exact this
 intro E b cap cc e fr eF hb XI hE H7 wA;rw[Sj]at wA⊢;have hbs:b<E.w.heap.size:=(bQ.1 hb).1;have hmul:l.length*k<=cc.size:=aK (by rw[lR];exact Nat.mul_le_mul_left _ wA) H7
 have hH:HoldsK (fun x=>(enc x).map mR) k E.w b 0 l.toArray:=by
  intro j hj;rw[size_flatK]at hj;have A6:j<l.length*k:=by simpa using hj
  have hq:j/k<l.length:=(kC zw).2 A6;have hr:j % k<k:=Nat.mod_lt _ zw;refine⟨?_,by rw[bR];exact De hb XI (by omega)⟩
  obtain⟨_,hM⟩:=ig.1 hE (j/k) (.agg (enc l[j/k])) (by simp[hq])
  have hrl:j % k<(enc l[j/k]).length:=by rw[hk];exact hr
  obtain⟨v,hv,_,gh⟩:=dd.1 hM (j % k) _ (ad (by simpa[A.cells]using hrl))
  have Bj:=(pe (hs _ _ (ai _))).1 gh;rw[show 0+j/k*k+j % k=0+j by rw[bR,bR,lR];exact Nat.div_add_mod j k]at hv;rw[hv,Bj,get_flatK _ _ _ _ hj]
  simp only[id]
  have e1:l.toArray[j/k]! =l[j/k]:=by rw[getElem!_pos _ _ (by simpa using hq)];simp
  rw[e1,getElem!_pos _ _ (by rw[aa];exact hrl)]
  simp only[A.cells,List.getElem_map]
  rfl
 have nT:CmpLays P g #[] (fun x=>(enc x).map mR) k cf b 0 l.toArray.size E.w:=by
  intro m os dk hdk x y
  have gh:cJ ⟨fun _=>False,[],sortWorldK (fun x=>(enc x).map mR) k E.w b 0 m dk os⟩ [.agg (enc x),.agg (enc y)] [.agg ((enc x).map mR).toArray,.agg ((enc y).map mR).toArray]:=by
   simp only[cJ,bW]
   exact⟨_,_,rfl,⟨_,rfl,ql (hs x),gm x⟩,_,_,rfl,⟨_,rfl,ql (hs y),gm y⟩,rfl⟩
  refine Calls.mono (hcmp x y (fun _=>False) _ _ (fun b h=>h.elim) gh) ?_;rintro e w' ⟨v,r,rfl,rfl,hr,QW⟩
  simp only[bW]at hr;subst hr;exact⟨rfl,JM QW⟩
 have OT:=AnyQ.slices_SortFunc_eq L k aE zE (fun x=>(enc x).map mR) hle gm cf hO g #[] b 0 cap l.toArray E.w (fun args w=>qc hg args w) nT hH hbs (by simpa using qw)
 have OU:(pdq (ltOf cf) l.toArray 0 l.toArray.size (Lib.bitLen l.toArray.size) true true).size=l.toArray.size:=(pdq_sorts (ltOf cf) hO l.toArray 0 l.toArray.size (Lib.bitLen l.toArray.size) true true (ak _) (ae _) (Or.inl rfl)).1.1;have s9:l.toArray.size=l.length:=by simp
 rw[s9]at OT;refine Calls.mono OT ?_;rintro e w' ⟨rfl,n,os,rfl⟩
 refine⟨rfl, ?_⟩
 have zA:((il cf l).map fun x=>(enc x).map mR).flatten=(flatK (fun x=>(enc x).map mR) k (pdq (ltOf cf) l.toArray 0 l.length (Lib.bitLen l.length) true true)).toList:=by
  rw[s9]at OU;have hsl2:(il cf l)=(pdq (ltOf cf) l.toArray 0 l.length (Lib.bitLen l.length) true true).toList:=by unfold il;rw[s9]
  rw[hsl2]
  generalize pdq (ltOf cf) l.toArray 0 l.length (Lib.bitLen l.length) true true=d at OU⊢;apply kg;intro j;rw[Db zw (fun ys CE=>by obtain⟨x,_,rfl⟩:=bV.1 CE;exact hle x)]
  by_cases hj:j<d.size*k
  · have hq:j/k<d.size:=(kC zw).2 hj
    have hr:j % k<k:=Nat.mod_lt _ zw;have e1:(flatK (fun x=>(enc x).map mR) k d).toList[j]? =some ((flatK (fun x=>(enc x).map mR) k d)[j]!):=by rw[getElem!_pos _ j (by rw[size_flatK];exact hj)];simp[hj]
    rw[e1,get_flatK _ _ _ _ hj]
    rw[getElem!_pos d _ hq]
    have Nk:j/k<d.toList.length:=by simpa using hq
    simp only[aQ,ad Nk,dY,aZ]
    rw[getElem!_pos _ _ (by simp only[aa,hk];exact hr)]
    rw[ad (by simp only[aa,hk];exact hr)]
    simp
  · have hq:d.size<=j/k:=by
     rcases fU (j/k) d.size with h|h
     · exact absurd ((kC zw).1 h) hj
     · exact h
    have e1:(flatK (fun x=>(enc x).map mR) k d).toList[j]? =none:=by rw[ez];rw[ik,size_flatK];omega
    rw[e1]
    simp[hq]
 rw[zA]
 unfold sortWorldK putRowK;exact Dd hH (by rw[size_flatK,size_flatK];rw[s9]at OU;rw[OU,s9]) hbs
open Go.Shelf Go.Lib Go.Sort Go.Proofs in
/-- slices.SortFunc of scalars. -/
theorem OV{P:Program}{ρ:Ren}{β:Type} [Inhabited β](L:SlLaysF.n6 P ρ)(L0:SlLaysF0.n6 P ρ)(enc:β->A)(hs: ∀x,scalar (enc x)=true)
 (cf:β->β->Int) (hO:SWO (ltOf cf)) {g:FuncId} (hg:nZ P g) (hcmp: ∀x y,bj P g [enc x,enc y] (· = .int .i64 (cf x y))) (l:List β) (qw:l.length<4611686018427387904) (c:Bool):
 jm P (ρ.f 6) [.row 0 0 1 l.length c,.fn g []] [.row 1 (l.map enc)] (.eV []) [.row 1 ((il cf l).map enc)] []:=by
 have hperm:=(jj hO l).1;have Sj:(l.map enc).length=l.length:=aa _;have hcell: ∀x,(enc x).cells=[enc x]:=fun x=>by have:=hs x;cases h:enc x<;>rw[h]at this<;>simp[scalar]at this<;>rfl
 have:=Ai (P:=P) (f:=ρ.f 6) (g:=g) (k:=1) (c:=c) (es:=l.map enc) (Du:=(il cf l).map enc) (D:=(il cf l).map fun x=>mR (enc x)) (by omega)
  (fun E=>F8 hs _) (BK (fun x=>Da (hs x)) _) (fun u hu=>by obtain⟨x,_,rfl⟩:=bV.1 hu;exact yB (hs x)) (by rw[aa,aa];exact hperm.length_eq)
  (fun _ w q cap=>AnyF.slices_SortFunc_none L0 q cap _ w) ?_
 · rw[Sj]at this;exact this
 intro E b cap cc e fr eF hb XI hE H7 wA;rw[Sj]at wA⊢;have hbs:b<E.w.heap.size:=(bQ.1 hb).1
 have hH:Holds (fun x=>mR (enc x)) E.w b 0 l.toArray:=by
  intro j hj;have A6:j<l.length:=by simpa using hj
  refine⟨?_,by rw[bR];exact De hb XI (by omega)⟩
  obtain⟨_,hM⟩:=ig.1 hE j (enc l[j]) (by simp[A6])
  rw[hcell]at hM;obtain⟨v,hv,_,gh⟩:=NA.1 hM;have Bj:=(pe (hs _)).1 gh;rw[Nat.mul_one]at hv;rw[hv,Bj,getElem!_pos l.toArray j hj];simp
 have nT:CmpLays1 P g #[] (fun x=>mR (enc x)) cf b 0 l.toArray.size E.w:=by
  intro m os dk hdk x y
  have gh:cJ ⟨fun _=>False,[],sortWorld (fun x=>mR (enc x)) E.w b 0 m dk os⟩ [enc x,enc y] [mR (enc x),mR (enc y)]:=by
   simp only[cJ]
   exact⟨_,_,rfl,(pe (hs x)).2 rfl,_,_,rfl,(pe (hs y)).2 rfl,rfl⟩
  refine Calls.mono (hcmp x y (fun _=>False) _ _ (fun b h=>h.elim) gh) ?_;rintro e w' ⟨v,r,rfl,rfl,hr,QW⟩
  simp only[bW]at hr;subst hr;exact⟨rfl,JM QW⟩
 have OT:=Any.slices_SortFunc_eq L (fun x=>mR (enc x)) (fun x=>yB (hs x)) cf hO g #[] b 0 cap l.toArray E.w (fun args w=>qc hg args w) nT hH hbs (by simpa using qw)
 have OU:(pdq (ltOf cf) l.toArray 0 l.toArray.size (Lib.bitLen l.toArray.size) true true).size=l.toArray.size:=(pdq_sorts (ltOf cf) hO l.toArray 0 l.toArray.size (Lib.bitLen l.toArray.size) true true (ak _) (ae _) (Or.inl rfl)).1.1;have s9:l.toArray.size=l.length:=by simp
 rw[s9]at OT OU;refine Calls.mono OT ?_;rintro e w' ⟨rfl,n,os,rfl⟩
 refine⟨rfl, ?_⟩
 have hsl2:(il cf l)=(pdq (ltOf cf) l.toArray 0 l.length (Lib.bitLen l.length) true true).toList:=by unfold il;rw[s9]
 rw[hsl2]
 generalize pdq (ltOf cf) l.toArray 0 l.length (Lib.bitLen l.length) true true=d at OU⊢
 have hput: ∀(w:World) (d:Array β),putRow (fun x=>mR (enc x)) w b 0 d=putRow id w b 0 (d.map fun x=>mR (enc x)):=fun w d=>by
  unfold putRow
  congr 1
  funext c
  unfold putCells;apply Array.ext
  · simp
  · intro i h1 h2
    simp only[Array.getElem_mapIdx,Array.size_map,ak,true_and,bR,Nat.sub_zero,id]
    split
    · rename_i hi
      rw[getElem!_pos d i hi,getElem!_pos _ i (by simpa using hi)];simp
    · rfl
 have hH':Holds id E.w b 0 (l.toArray.map fun x=>mR (enc x)):=fun j hj=>by
  have A6:j<l.toArray.size:=by simpa using hj
  obtain⟨h1,h2⟩:=hH j A6;refine⟨?_,h2⟩
  rw[h1,getElem!_pos l.toArray j A6,getElem!_pos (l.toArray.map fun x=>mR (enc x)) j hj];simp
 have he:(d.toList.map fun x=>mR (enc x))=(d.map fun x=>mR (enc x)).toList:=by simp
 rw[he]
 unfold sortWorld;rw[hput]
 exact Dd hH' (by simp[OU]) hbs
end Go.du
namespace Go.Proofs
open Go.Shelf
def YtfnohjheonlnmaaGreat.OW:Go.Shelf.Ren:=⟨fun|6=>234|15=>222|14=>265|28=>244|29=>245|20=>279|21=>280|22=>281|23=>282|24=>283|25=>284|26=>285|27=>286|46=>290|47=>267|48=>268|49=>291|50=>292|57=>293|n=>n,fun|22=>141|24=>146|25=>237|3=>3|39=>228|0=>0|53=>62|55=>248|4=>4|46=>240|45=>239|50=>244|5=>5|9=>9|66=>261|70=>265|76=>278|77=>279|n=>n,fun|n=>n⟩
theorem YtfnohjheonlnmaaGreat.sortRun:Go.Proofs.SlLaysF0.n6 Tryz.prog YtfnohjheonlnmaaGreat.OW:={mixed:=by kernel_rfl,f6:=⟨Tryz.f234.name,by decide,Tryz.func234.trans (congrArg some (by kernel_rfl))⟩,f14:=⟨Tryz.f265.name,by decide,Tryz.func265.trans (congrArg some (by kernel_rfl))⟩,f15:=Tryz.func222.trans (congrArg some (by kernel_rfl)),f20:=⟨Tryz.f279.name,by decide,Tryz.func279.trans (congrArg some (by kernel_rfl))⟩,f21:=⟨Tryz.f280.name,by decide,Tryz.func280.trans (congrArg some (by kernel_rfl))⟩,f22:=⟨Tryz.f281.name,by decide,Tryz.func281.trans (congrArg some (by kernel_rfl))⟩,f23:=⟨Tryz.f282.name,by decide,Tryz.func282.trans (congrArg some (by kernel_rfl))⟩,f24:=⟨Tryz.f283.name,by decide,Tryz.func283.trans (congrArg some (by kernel_rfl))⟩,f25:=⟨Tryz.f284.name,by decide,Tryz.func284.trans (congrArg some (by kernel_rfl))⟩,f26:=⟨Tryz.f285.name,by decide,Tryz.func285.trans (congrArg some (by kernel_rfl))⟩,f27:=⟨Tryz.f286.name,by decide,Tryz.func286.trans (congrArg some (by kernel_rfl))⟩,f28:=Tryz.func244.trans (congrArg some (by kernel_rfl)),f29:=Tryz.func245.trans (congrArg some (by kernel_rfl)),f46:=⟨Tryz.f290.name,by decide,Tryz.func290.trans (congrArg some (by kernel_rfl))⟩,f47:=Tryz.func267.trans (congrArg some (by kernel_rfl)),f48:=Tryz.func268.trans (congrArg some (by kernel_rfl)),f49:=⟨Tryz.f291.name,by decide,Tryz.func291.trans (congrArg some (by kernel_rfl))⟩,f50:=⟨Tryz.f292.name,by decide,Tryz.func292.trans (congrArg some (by kernel_rfl))⟩,f57:=⟨Tryz.f293.name,by decide,Tryz.func293.trans (congrArg some (by kernel_rfl))⟩,t0:=Tryz.underlying0,a0:=Tryz.isAgg0,z0:=Tryz.sizeOf0,v0:=Tryz.zeroValue0,t3:=Tryz.underlying3,a3:=Tryz.isAgg3,z3:=Tryz.sizeOf3,v3:=Tryz.zeroValue3,t4:=Tryz.underlying4,a4:=Tryz.isAgg4,z4:=Tryz.sizeOf4,v4:=Tryz.zeroValue4,t5:=Tryz.underlying5,a5:=Tryz.isAgg5,z5:=Tryz.sizeOf5,v5:=Tryz.zeroValue5,t9:=Tryz.underlying9,a9:=Tryz.isAgg9,z9:=Tryz.sizeOf9,v9:=Tryz.zeroValue9,t22:=Tryz.underlying141,a22:=Tryz.isAgg141,z22:=Tryz.sizeOf141,v22:=Tryz.zeroValue141,t25:=Tryz.underlying237,a25:=Tryz.isAgg237,z25:=Tryz.sizeOf237,v25:=Tryz.zeroValue237,t39:=Tryz.underlying228,a39:=Tryz.isAgg228,z39:=Tryz.sizeOf228,v39:=Tryz.zeroValue228,t45:=Tryz.underlying239,a45:=Tryz.isAgg239,z45:=Tryz.sizeOf239,v45:=Tryz.zeroValue239,t46:=Tryz.underlying240,a46:=Tryz.isAgg240,z46:=Tryz.sizeOf240,v46:=Tryz.zeroValue240,t50:=Tryz.underlying244,a50:=Tryz.isAgg244,z50:=Tryz.sizeOf244,v50:=Tryz.zeroValue244,t53:=Tryz.underlying62,a53:=Tryz.isAgg62,z53:=Tryz.sizeOf62,v53:=Tryz.zeroValue62,t55:=Tryz.underlying248,a55:=Tryz.isAgg248,z55:=Tryz.sizeOf248,v55:=Tryz.zeroValue248,t66:=Tryz.underlying261,a66:=Tryz.isAgg261,z66:=Tryz.sizeOf261,v66:=Tryz.zeroValue261,t70:=Tryz.underlying265,a70:=Tryz.isAgg265,z70:=Tryz.sizeOf265,v70:=Tryz.zeroValue265,t76:=Tryz.underlying278,a76:=Tryz.isAgg278,z76:=Tryz.sizeOf278,v76:=Tryz.zeroValue278,t77:=Tryz.underlying279,a77:=Tryz.isAgg279,z77:=Tryz.sizeOf279,v77:=Tryz.zeroValue279}
end Go.Proofs
namespace Go.Proofs.YtfnohjheonlnmaaGreat
open Go.du
set_option linter.unusedSimpArgs false
set_option linter.unusedVariables false
set_option maxRecDepth 20000
set_option maxHeartbeats 4000000
theorem BL:gQ Tryz.prog Xw Tryz.f219.ntmps (Tryz.f219.body.getD .skip)=true:=by kernel_rfl
theorem Df(l:List bG)(hl:l.length<=4398046511104):jm Tryz.prog 219 [.aw (l.map bG.enc)] [] (.row 0 0 2 l.length false) [.row 2 (l.map bG.enc)] []:=by cases l with|nil=>(refine XH (XG 2 ?_) ?_;{refine e9 oe mixed Tryz.func219 rfl (bq rfl) (by simp) (by simp) (ae _) BL ?_;unfold Tryz.f219;simp-implicitDefEqProofs (disch:=first|omega|decide) only[go_sem,↓reduceIte,seval]};{refine e9 oe mixed Tryz.func219 rfl (bq rfl) (by simp) (by simp) (ak _) BL ?_;unfold Tryz.f219;simp-implicitDefEqProofs (disch:=first|omega|decide) only[go_sem,↓reduceIte,seval]})|cons r l=>(refine e9 oe mixed Tryz.func219 rfl (bq rfl) (by simp) (by simp) (ak _) BL ?_;unfold Tryz.f219;obtain⟨f,t⟩:=r;simp only[ay]at hl;simp-implicitDefEqProofs (disch:=first|omega|decide) only[go_sem,↓reduceIte,seval,aa];omega)
theorem c_Of1(f t f' t':Int)(h:0<=f/\f<=1099511627776/\0<=f'/\f'<=1099511627776):bj Tryz.prog 235 [.agg [.int .i64 f,.int .i64 t],.agg [.int .i64 f',.int .i64 t']] (· = .int .i64 (f-f')):=by refine aF oe mixed Tryz.func235 ?_;unfold Tryz.f235;simp-implicitDefEqProofs (disch:=first|omega|decide) only[go_sem,↓reduceIte,seval,wrap_i64]
abbrev Aj:={r:bG//fH r=true}
instance:Inhabited Aj:=⟨⟨⟨1,1⟩,by decide⟩⟩
def cfB(a b:Aj):Int:=a.1.f-b.1.f
def Aj.cells(r:Aj):List A:=r.1.cells
theorem swoB:Go.Sort.SWO (Go.Proofs.ltOf cfB):=by (have hl: ∀a b,Go.Proofs.ltOf cfB a b=decide (a.1.f<b.1.f):=fun a b=>by unfold Go.Proofs.ltOf cfB;by_cases h:a.1.f<b.1.f;{(have:a.1.f-b.1.f<0:=by omega);simp[this,h]};{(have: ¬a.1.f-b.1.f<0:=by omega);simp[this,h]});refine⟨fun x=> ?_,fun x y z h1 h2=> ?_,fun x y z h1 h2=> ?_⟩;{rw[hl];simp};{rw[hl]at*;rw[decide_eq_true_iff]at*;omega};{rw[hl]at*;rw[decide_eq_false_iff_not]at*;omega}
theorem F9(l:List Aj)(hl:l.length<4611686018427387904):jm Tryz.prog 234 [.row 0 0 2 l.length false,.fn 235 []] [.row 2 (l.map fun x=> .agg x.cells)] (.eV []) [.row 2 ((il cfB l).map fun x=> .agg x.cells)] []:=vE Go.Proofs.YtfnohjheonlnmaaGreat.sortRun (by omega) Tryz.isAgg146 Tryz.sizeOf146 Aj.cells (fun _=>rfl) (fun x a ha=>by simp only[Aj.cells,bG.cells,aB,bP,or_false]at ha;rcases ha with rfl|rfl<;>rfl) cfB swoB (dp Tryz.func235 (by kernel_rfl) (by kernel_rfl)) (fun x y=>by have h1:=fI.1 x.2;have h2:=fI.1 y.2;exact c_Of1 x.1.f x.1.t y.1.f y.1.t (by omega)) l hl false
def oP(l:List bG):List Aj:=(l.filter fH).attach.map fun x=>⟨x.1,(aS.1 x.2).2⟩
theorem BM(l:List bG):(oP l).map (·.1)=l.filter fH:=by unfold oP;rw[dV];exact List.attach_map_subtype_val _
theorem OX(l:List bG):(oP l).map (fun x=>A.agg x.cells)=(l.filter fH).map bG.enc:=by rw[<-BM,dV];rfl
def DF(l:List bG):List bG:=(il cfB (oP l)).map (·.1)
theorem Sk(l:List bG):(il cfB (oP l)).map (fun x=>A.agg x.cells)=(DF l).map bG.enc:=by unfold DF;rw[dV];rfl
theorem BN(l:List bG):(DF l).Perm (l.filter fH):=by rw[<-BM];exact(jj swoB (oP l)).1.map _
theorem OY(l:List bG): ∀r∈DF l,fH r=true:=fun r hr=>by unfold DF at hr;obtain⟨x,_,rfl⟩:=bV.1 hr;exact x.2
theorem Va(l:List bG):(DF l).Pairwise (fun x y=>x.f<=y.f):=by unfold DF;rw[km];exact(jj swoB (oP l)).2.imp fun{x y} h=>by unfold cfB at h;omega
theorem srtL_has(l:List bG)(n:Int):a_ (DF l) n=a_ l n:=by rw[has_perm (BN l),Sb]
theorem OZ(l:List bG):((DF l).foldl fY []).reverse=fS (a_ l):=by rw[Im (OY l) (Va l)];congr 1;funext n;exact srtL_has l n
def srE(l:List Aj):List A:=[.row 0 0 2 l.length false,.fn 235 []]
def srO(l:List Aj):List Go.du.Obj:=[.row 2 (l.map fun x=> .agg x.cells)]
def srK(l:List Aj):Prop:=l.length<4611686018427387904
def srR(l:List Aj):A×List Go.du.Obj×List Nat:=(.eV [],[.row 2 ((il cfB l).map fun x=> .agg x.cells)],[])
theorem runB_inj(x y:Aj)(h:A.agg x.cells=A.agg y.cells):x=y:=Subtype.ext (bG.iP _ _ h)
theorem srO_inj(i j:List Aj)(h:srO i=srO j):i=j:=by simp only[srO,dw,Go.du.Obj.row.injEq,true_and,and_true]at h;rwa [map_inj runB_inj]at h
def Sl:aN:=Ij.add 209 (entry (fun(l:List bG)=>[.aw (l.map bG.enc)]) (fun l=>l.length<=4611686018427387904) (fun l=> .bool (dJ l)))
theorem T13f_ok:aI Tryz.prog Sl:=tQ.en Tryz.func209 fun l h=>vu l h
@[go_sem] theorem T13f_old{g:FuncId}{xs:List A}(h:g≠209):Sl.f g xs=Ij.f g xs:=aN.aV h
theorem Ak(l:List bG)(h:l.length<=4611686018427387904):Sl.f 209 [.aw (l.map bG.enc)]=some (.bool (dJ l)):=aN.en (Γ:=Ij) l h
def Ls:aN:=Sl.add 219 (entry (fun(l:List bG)=>[.aw (l.map bG.enc)]) (fun l=>l.length<=4398046511104) (fun l=> .aw (l.map bG.enc)))
theorem Vb:aI Tryz.prog Ls:=T13f_ok.en Tryz.func219 fun l h=>OB l h
@[go_sem] theorem T13g_old{g:FuncId}{xs:List A}(h:g≠219):Ls.f g xs=Sl.f g xs:=aN.aV h
theorem jH(l:List bG)(h:l.length<=4398046511104):Ls.f 219 [.aw (l.map bG.enc)]=some (.aw (l.map bG.enc)):=aN.en (Γ:=Sl) l h
@[go_sem] theorem t_counts_Right{l:List bG}(h:l.length<=4611686018427387904):Sl.f 209 [.aw (l.map bG.enc)]=some (.bool (dJ l)):=Ak l h
@[go_sem] theorem t_Clone_Run{l:List bG}(h:l.length<=4398046511104):Ls.f 219 [.aw (l.map bG.enc)]=some (.aw (l.map bG.enc)):=jH l h
def C13Sa:aN:=Ls.kM 234 (dN srE srO srK srR)
def O0:aN:={C13Sa with pV:=fun f=>f==234}
theorem O2:aI Tryz.prog C13Sa:=Vb.kM (dp Tryz.func234 (by kernel_rfl) (by kernel_rfl)) (gw fun l h=>F9 l h)
theorem C13S_ok:aI Tryz.prog O0:=⟨O2.f,O2.hp⟩
@[go_sem] theorem C13S_f:O0.f=Ls.f:=rfl
@[go_sem] theorem C13S_eff{g:FuncId}:O0.pV g=(g==234):=rfl
@[go_sem] theorem C13S_frz{g:FuncId}:O0.uO g=false:=rfl
@[go_sem] theorem C13S_fix{n:Nat}:O0.fix n=false:=rfl
@[go_sem] theorem C13S_ords{n:Nat}:O0.fB n=[]:=rfl
theorem XJ{l:List bG}{n:Nat}(hn:n=(l.filter fH).length)(h:l.length<4611686018427387904):O0.hp 234 [.row 0 0 2 n false,.fn 235 []] [.row 2 ((l.filter fH).map bG.enc)]=some (.eV [],[.row 2 ((DF l).map bG.enc)],[]):=by subst hn;(have hlen:(oP l).length=(l.filter fH).length:=by rw[<-BM];simp);have h0:C13Sa.hp 234 (srE (oP l)) (srO (oP l))=dN srE srO srK srR (srE (oP l)) (srO (oP l)):=aN.jW;have h1:O0.hp 234 (srE (oP l)) (srO (oP l))=dN srE srO srK srR (srE (oP l)) (srO (oP l)):=h0;have h2:=h1.trans (gz (fun i j _ h=>srO_inj i j h) (oP l) (show(oP l).length<4611686018427387904 by rw[hlen];exact Nat.lt_of_le_of_lt (aM _ _) h));simp only[srE,srO,srR,hlen,OX,Sk]at h2;exact h2
def sc(acc:List bG):List A:=acc.reverse.map bG.enc
theorem wZ(q:bG)(qs:List bG):sc (q::qs)=sc qs++[.agg [.int .i64 q.f,.int .i64 q.t]]:=by simp[sc,bG.enc,bG.cells]
theorem Al(l:List bG):(sc l).length=l.length:=by simp[sc]
theorem rowG_nil:sc []=[]:=rfl
theorem XK(l:List bG)(k:Nat)(h:k<l.length):(l.take (k+1)).foldl fY []=fY ((l.take k).foldl fY []) l[k]:=by rw[<-an h,cu];rfl
theorem F_: ∀(l:List bG) (a:List bG),(l.foldl fY a).length<=a.length+l.length| [],a=>by simp|r::l,a=>by have h1:=F_ l (fY a r);have h2:=JD a r;simp only[cj,ay];omega
theorem Dg(l:List bG)(hl:l.length<=4398046511104):bj Tryz.prog 220 [.aw (l.map bG.enc)] (· = .aw ((fS (a_ l)).map bG.enc)):=by refine aF C13S_ok mixed Tryz.func220 ?_;unfold Tryz.f220;cases hr:dJ l with|true=>(have e:=wV hr (fun _=>rfl);simp-implicitDefEqProofs (disch:=first|omega|decide) only[go_sem,↓reduceIte,seval,hr,aa];rw[<-e])|false=>(simp-implicitDefEqProofs (disch:=first|omega|decide) only[go_sem,↓reduceIte,seval,hr,aa];refine bZ 3 2 rfl ?_;refine aW [2,14,15] (ι:={k:Nat//k<=l.length}) (fun p=>[(16,.int .i64 p.1),(3,.row 0 0 2 ((l.take p.1).filter fH).length false)]) (fun p=>[(0,.row 2 (((l.take p.1).filter fH).map bG.enc))]) (fun p=>l.length-p.1) ⟨0,by omega⟩ (ak _) ?_ ?_;{simp-implicitDefEqProofs (disch:=first|omega|decide) only[go_sem,↓reduceIte,seval];simp};{rintro⟨k,hk⟩;simp only;have hf:((l.take k).filter fH).length<=k:=aK (aM _ _) (by rw[az];omega);by_cases bh:k<l.length;{(have aA:(k:Int)<(l.length:Int):=by omega);have ht:l.take (k+1)=l.take k++[l[k]]:=(an bh).symm;have e1:=run_get bh;generalize hx:l[k]=x at*;obtain⟨f,t⟩:=x;cases h1:fH ⟨f,t⟩with|true=>(simp-implicitDefEqProofs (disch:=first|omega|decide) only[go_sem,↓reduceIte,seval,aA,e1,h1,wrap_i64,aa];refine⟨⟨ae _,by omega⟩,⟨k+1,bh⟩,⟨⟨by simp, ?_⟩, ?_⟩,by show l.length-(k+1)<l.length-k;omega⟩;{rw[ht,bO];simp[h1]};{rw[ht,bO,ab (by simp)];simp[h1,bG.enc,bG.cells]})|false=>(simp-implicitDefEqProofs (disch:=first|omega|decide) only[go_sem,↓reduceIte,seval,aA,e1,h1,wrap_i64,aa];refine⟨⟨k+1,bh⟩,⟨⟨by simp, ?_⟩, ?_⟩,by show l.length-(k+1)<l.length-k;omega⟩;{rw[ht,bO];simp[h1]};{rw[ht,bO];simp[h1]})};{(have aA: ¬(k:Int)<(l.length:Int):=by omega);rw[ab (by omega)]at*;have hs:=XJ (l:=l) rfl (by omega);have hp:=(BN l).length_eq;have mY:=OZ l;have gm:=OY l;have XA:=Va l;rw[<-hp]at hf;simp-implicitDefEqProofs (disch:=first|omega|decide) only[go_sem,↓reduceIte,seval,aA,hs,aa,cm,cd];rw[<-hp];generalize DF l=s at*;refine bZ 6 2 rfl ?_;refine aW [2,29,30] (ι:={j:Nat//j<=s.length}) (fun p=>[(31,.int .i64 p.1),(6,.row 1 0 2 ((s.take p.1).foldl fY []).length false)]) (fun p=>[(1,.row 2 (sc ((s.take p.1).foldl fY [])))]) (fun p=>s.length-p.1) ⟨0,by omega⟩ (ak _) ?_ ?_;{simp-implicitDefEqProofs (disch:=first|omega|decide) only[go_sem,↓reduceIte,seval];simp[sc]};{rintro⟨j,hj⟩;simp only;have ux:=F_ (s.take j) [];rw[az,bo,gi hj,bR]at ux;by_cases Lt:j<s.length;{(have rO:(j:Int)<(s.length:Int):=by omega);have e2:=run_get Lt;have eC:=XK s j Lt;have ho:=gm _ (ai Lt);have hR:RR ((s.take j).foldl fY []):=(fold_push (a:=[]) trivial (fun r hr=>gm r (bM hr)) (XA.sublist (kq _ _)) (fun _ _=>trivial)).1;have fin: ∀m',(s.take (j+1)).foldl fY []=m'-> ∃i:{j:Nat//j<=s.length},(((j:Int)+1=(i.1:Int)/\m'.length=((s.take i.1).foldl fY []).length)/\sc m'=sc ((s.take i.1).foldl fY []))/\s.length-i.1<s.length-j:=fun m' nQ=>⟨⟨j+1,Lt⟩,⟨⟨by simp,by rw[nQ]⟩,by rw[nQ]⟩,by show s.length-(j+1)<s.length-j;omega⟩;generalize hx:s[j]=x at*;generalize(s.take j).foldl fY []=m at*;obtain⟨f,t⟩:=x;obtain⟨o1,o2,o3⟩:=nK ho;simp only at o1 o2 o3;have qT:=fin _ eC;cases m with|nil=>(rw[rowG_nil];simp-implicitDefEqProofs (disch:=first|omega|decide) only[go_sem,↓reduceIte,seval,rO,e2,wrap_i64,aa];exact qT)|cons q qs=>(obtain⟨p1,p2,p3⟩:=nK (kE hR);rw[wZ]at*;have hlq:qs.length+1<=j:=ux;(have c0:(0:Int)<((qs.length+1:Nat):Int):=by omega);(have c1:(((qs.length+1:Nat):Int)-1).toNat=qs.length:=by omega);(have c2:(0:Int)<=((qs.length+1:Nat):Int)-1:=by omega);(have c3:((qs.length+1:Nat):Int)-1<((qs.length+1:Nat):Int):=by omega);(have g1:(sc qs++[A.agg [.int .i64 q.f,.int .i64 q.t]])[qs.length]? =some (.agg [.int .i64 q.f,.int .i64 q.t]):=by have:=mF (x:=A.agg [.int .i64 q.f,.int .i64 q.t]) (l:=sc qs);rwa [Al]at this);(have g2: ∀v,fE (sc qs++[A.agg [.int .i64 q.f,.int .i64 q.t]]) qs.length v=sc qs++[v]:=fun v=>by have:=mG (x:=A.agg [.int .i64 q.f,.int .i64 q.t]) (v:=v) (l:=sc qs);rwa [Al]at this);(have gl:(sc qs++[A.agg [.int .i64 q.f,.int .i64 q.t]]).length=qs.length+1:=by rw[ag,Al];rfl);have gt:(sc qs++[A.agg [.int .i64 q.f,.int .i64 q.t]]).take (qs.length+1)=sc qs++[A.agg [.int .i64 q.f,.int .i64 q.t]]:=ab (dq gl);by_cases hq:f-q.t<2;{(have Lq:fY (q::qs) ⟨f,t⟩=⟨q.f,if t>q.t then t else q.t⟩::qs:=by simp only[fY];rw[if_pos (by omega)]);rw[Lq,wZ]at qT;simp-implicitDefEqProofs (disch:=first|omega|decide) only[go_sem,↓reduceIte,seval,rO,e2,c0,c1,c2,c3,g1,g2,hq,wrap_i64,aa];exact qT};{(have Lq:fY (q::qs) ⟨f,t⟩=⟨f,t⟩::q::qs:=by simp only[fY];rw[if_neg (by omega)]);rw[Lq,wZ,wZ]at qT;simp-implicitDefEqProofs (disch:=first|omega|decide) only[go_sem,↓reduceIte,seval,rO,e2,c0,c1,c2,c3,g1,g2,gl,gt,hq,wrap_i64,aa];exact⟨⟨ae _,by omega⟩,qT⟩})};{(have rO: ¬(j:Int)<(s.length:Int):=by omega);rw[ab (by omega)]at*;(have mZ:sc (s.foldl fY [])=(fS (a_ l)).map bG.enc:=by unfold sc;rw[mY]);(have JL:(s.foldl fY []).length=(sc (s.foldl fY [])).length:=by rw[Al]);simp-implicitDefEqProofs (disch:=first|omega|decide) only[go_sem,↓reduceIte,seval,rO,wrap_i64,JL,aa,bD];rw[mZ];exact⟨ae _,rfl⟩}}}})
end Go.Proofs.YtfnohjheonlnmaaGreat
namespace Go.Proofs.YtfnohjheonlnmaaGreat
open Go.du
set_option linter.unusedSimpArgs false
set_option linter.unusedVariables false
set_option linter.unusedSectionVars false
set_option maxRecDepth 20000
set_option maxHeartbeats 8000000
section
variable{D:List bG}{p e:Int}
end
section
variable{kp:Bool->Bool->Bool}{a b:List bG}(hra:dJ a=true)(hrb:dJ b=true)
include hra hrb
end
end Go.Proofs.YtfnohjheonlnmaaGreat
namespace Go.Proofs.YtfnohjheonlnmaaGreat
open Go.du
set_option linter.unusedSimpArgs false
set_option linter.unusedVariables false
set_option maxRecDepth 20000
set_option maxHeartbeats 8000000
theorem of_len{l:List bG}(h:dJ l=true):l.length<=1099511627776:=by (have key: ∀m:List bG,RR m->match m with| []=>True|r::l=>((r::l).length:Int)<=r.t:=by intro m;induction m with|nil=>(intro _;trivial)|cons r l ih=>(intro h;have o:=fI.1 (kE h);have ih:=ih (Aa h);cases l with|nil=>(show((1:Nat):Int)<=r.t;omega)|cons q l=>(have h2:=h.2.1;have ih':((q::l).length:Int)<=q.t:=ih;show(((q::l).length+1:Nat):Int)<=r.t;omega)));have h1:=key l.reverse (qB.1 h);cases hm:l.reverse with|nil=>((have:l=[]:=by simpa using hm);subst this;simp)|cons r m=>(rw[hm]at h1;have o:=fI.1 (kE (by rw[<-hm];exact qB.1 h));(have hl:l.length=(r::m).length:=by rw[<-hm];simp);have nR:((r::m).length:Int)<=r.t:=h1;omega)
def XL:aN:=Ls.add 220 (entry (fun(l:List bG)=>[.aw (l.map bG.enc)]) (fun l=>l.length<=4398046511104) (fun l=> .aw ((fS (a_ l)).map bG.enc)))
theorem Vc:aI Tryz.prog XL:=Vb.en Tryz.func220 fun l h=>Dg l h
@[go_sem] theorem T13u_s:XL.pl Ls:=⟨fun _=>rfl,fun _=>rfl,rfl,fun _=>rfl,rfl,fun _=>rfl,rfl⟩
theorem Ga(l:List bG)(h:l.length<=4398046511104):XL.f 220 [.aw (l.map bG.enc)]=some (.aw ((fS (a_ l)).map bG.enc)):=aN.en (Γ:=Ls) l h
@[go_sem] theorem O3{l:List bG}(h:l.length<=4398046511104):XL.f 220 [.aw (l.map bG.enc)]=some (.aw ((fS (a_ l)).map bG.enc)):=Ga l h
def kJ(l:List bG):Int:=match l.getLast? with|none=>0|some r=>r.t
theorem Iq(l:List bG)(hl:l.length<=4398046511104):bj Tryz.prog 216 [.aw (l.map bG.enc)] (· = .int .i64 (kJ (fS (a_ l)))):=by refine aF Vc mixed Tryz.func216 ?_;unfold Tryz.f216;have hu:= @O3 l hl;have hn:(fS (a_ l)).length<=1099511627776:=U4 (mE (a_ l));generalize fS (a_ l)=s at*;rcases List.eq_nil_or_concat s with rfl|⟨rs,r,rfl⟩;{simp-implicitDefEqProofs (disch:=first|omega|decide) only[go_sem,↓reduceIte,seval,hu,kJ,aa,List.getLast?_nil]};{rw[List.concat_eq_append]at*;obtain⟨f,t⟩:=r;(have hm:(rs++[(⟨f,t⟩:bG)]).map bG.enc=rs.map bG.enc++[.agg [.int .i64 f,.int .i64 t]]:=by simp[bG.enc,bG.cells]);(have Sj:(rs.map bG.enc++[A.agg [.int .i64 f,.int .i64 t]]).length=rs.length+1:=by simp);(have hv:kJ (rs++[⟨f,t⟩])=t:=by simp[kJ]);rw[hm]at hu;rw[hv];(have c0:(0:Int)<((rs.length+1:Nat):Int):=by omega);(have c1:(((rs.length+1:Nat):Int)-1).toNat=rs.length:=by omega);(have c2:(0:Int)<=((rs.length+1:Nat):Int)-1:=by omega);(have g1:(rs.map bG.enc++[A.agg [.int .i64 f,.int .i64 t]])[rs.length]? =some (.agg [.int .i64 f,.int .i64 t]):=by have:=mF (x:=A.agg [.int .i64 f,.int .i64 t]) (l:=rs.map bG.enc);rwa [aa]at this);simp only[ag,dF]at hn;simp-implicitDefEqProofs (disch:=first|omega|decide) only[go_sem,↓reduceIte,seval,hu,Sj,c0,c1,c2,g1,wrap_i64,aa]}
def dj(p:Int->Bool):Nat->Int|0=>0|N+1=>dj p N+if p ((N:Int)+1)then 1 else 0
theorem XM{s:List bG}(h:dJ s=true):0<=kJ s/\kJ s<=1099511627776/\(0<kJ s->a_ s (kJ s)=true)/\ ∀n,a_ s n=true->n<=kJ s:=by rcases List.eq_nil_or_concat s with rfl|⟨rs,r,rfl⟩;{exact⟨cQ _,by simp[kJ],fun h=>by simp[kJ]at h,fun n h=>by simp[wT]at h⟩};{rw[List.concat_eq_append]at*;(have hv:kJ (rs++[r])=r.t:=by simp[kJ]);have h1:=qB.1 h;rw[List.reverse_append]at h1;have nR:RR (r::rs.reverse):=h1;have o:=fI.1 (kE nR);rw[hv];refine⟨by omega,o.2.2,fun _=> ?_,fun n hn=> ?_⟩;{rw[lI,vw,kE nR,aD];(have:QZ r r.t=true:=by simp[QZ];omega);rw[this];simp};{refine Sc nR n ?_;rw[<-wU]at hn;rw[List.reverse_append]at hn;exact hn}}
def XN:aN:=Sh.add 223 (entry (fun(v:Int×List bG×List bG)=>[.int .i64 v.1,.aw (v.2.1.map bG.enc),.aw (v.2.2.map bG.enc)]) (fun v=>OR v.1/\v.2.1.length<=50000/\v.2.2.length<=50000) (fun v=> .aw ((fS (nS v.1 v.2.1 v.2.2)).map bG.enc)))
theorem T13m_ok:aI Tryz.prog XN:=U9.en Tryz.func223 fun v h=>Lp v.1 v.2.1 v.2.2 h.1 h.2.1 h.2.2
@[go_sem] theorem T13m_old{g:FuncId}{xs:List A}(h:g≠223):XN.f g xs=Sh.f g xs:=aN.aV h
theorem DG(v:Int×List bG×List bG)(h:OR v.1/\v.2.1.length<=50000/\v.2.2.length<=50000):XN.f 223 [.int .i64 v.1,.aw (v.2.1.map bG.enc),.aw (v.2.2.map bG.enc)]=some (.aw ((fS (nS v.1 v.2.1 v.2.2)).map bG.enc)):=aN.en (Γ:=Sh) v h
theorem op2(a b:List bG):nS 2 a b=fun n=>a_ a n&&a_ b n:=rfl
def C13Aa:aN:=XL.kM 219 (dN (fun l:List bG=>[.aw (l.map bG.enc)]) (fun _=>[]) (fun l=>l.length<=4398046511104) (fun l=>(.row 0 0 2 l.length false,[.row 2 (l.map bG.enc)],[])))
def Sn:aN:={C13Aa with pV:=fun f=>f==220||f==219,uO:=fun f=>f==220}
theorem O4:aI Tryz.prog C13Aa:=Vc.kM (dp Tryz.func219 (by kernel_rfl) (by kernel_rfl)) (gw fun l h=>Df l h)
theorem C13A_ok:aI Tryz.prog Sn:=⟨O4.f,O4.hp⟩
@[go_sem] theorem C13A_f:Sn.f=XL.f:=rfl
@[go_sem] theorem C13A_eff{g:FuncId}:Sn.pV g=(g==220||g==219):=rfl
@[go_sem] theorem C13A_frz{g:FuncId}:Sn.uO g=(g==220):=rfl
@[go_sem] theorem C13A_fix{n:Nat}:Sn.fix n=false:=rfl
@[go_sem] theorem C13A_ords{n:Nat}:Sn.fB n=[]:=rfl
theorem Sp{l:List bG}(h:l.length<=4398046511104):Sn.hp 219 [.aw (l.map bG.enc)] []=some (.row 0 0 2 l.length false,[.row 2 (l.map bG.enc)],[]):=by have h0:C13Aa.hp 219 [.aw (l.map bG.enc)] []=dN (fun l:List bG=>[A.aw (l.map bG.enc)]) (fun _=>[]) (fun l=>l.length<=4398046511104) (fun l=>(.row 0 0 2 l.length false,[.row 2 (l.map bG.enc)],[])) [.aw (l.map bG.enc)] []:=aN.jW;exact h0.trans (gz (enc:=fun l:List bG=>[A.aw (l.map bG.enc)]) (HT:=fun _=>[]) (fun i j h _=>by simpa using h) l h)
def rC(m:List Int):List bG:=m.map fun n=>⟨n,n⟩
theorem Lu(l:List bG)(m:List Int)(hl:l.length<=1000000)(hm:m.length<=1000000):bj Tryz.prog 187 [.aw (l.map bG.enc),.aw (m.map (A.int .i64))] (· = .aw ((fS (a_ (l++rC m))).map bG.enc)):=by refine aF C13A_ok mixed Tryz.func187 ?_;unfold Tryz.f187;have h0:=Sp (l:=l) (by omega);simp-implicitDefEqProofs (disch:=first|omega|decide) only[go_sem,↓reduceIte,seval,h0,aa,cm,cd];refine aW [4,10,11] (ι:={k:Nat//k<=m.length}) (fun p=>[(12,.int .i64 p.1),(5,.row 0 0 2 (l.length+p.1) false)]) (fun p=>[(0,.row 2 ((l++rC (m.take p.1)).map bG.enc))]) (fun p=>m.length-p.1) ⟨0,by omega⟩ (ak _) ?_ ?_;{simp-implicitDefEqProofs (disch:=first|omega|decide) only[go_sem,↓reduceIte,seval];simp[rC]};{rintro⟨k,hk⟩;simp only;(have hlen:(l++rC (m.take k)).length=l.length+k:=by simp[rC];omega);by_cases bh:k<m.length;{(have aA:(k:Int)<(m.length:Int):=by omega);(have e1:(m.map (A.int .i64))[k]? =some (.int .i64 m[k]):=by rw[aQ,ad bh];rfl);have ht:m.take (k+1)=m.take k++[m[k]]:=(an bh).symm;(have hh:l++rC (m.take (k+1))=(l++rC (m.take k))++[⟨m[k],m[k]⟩]:=by rw[ht];unfold rC;rw[br,<-aX];rfl);have tl:((l++rC (m.take k)).map bG.enc).take (l.length+k)=(l++rC (m.take k)).map bG.enc:=ab (dq (by rw[aa,hlen]));simp-implicitDefEqProofs (disch:=first|omega|decide) only[go_sem,↓reduceIte,seval,aA,e1,tl,hlen,wrap_i64,aa];exact⟨⟨ae _,by omega⟩,⟨k+1,bh⟩,⟨⟨by simp,by show l.length+k+1=l.length+(k+1);omega⟩,by rw[hh,br (l₁:=l++rC (m.take k))];rfl⟩,by show m.length-(k+1)<m.length-k;omega⟩};{(have aA: ¬(k:Int)<(m.length:Int):=by omega);have tl:((l++rC (m.take k)).map bG.enc).take (l.length+k)=(l++rC (m.take k)).map bG.enc:=ab (dq (by rw[aa,hlen]));rw[ab (show m.length<=k by omega)]at*;simp-implicitDefEqProofs (disch:=first|omega|decide) only[go_sem,↓reduceIte,seval,aA,tl,hlen,aa,cm,cd];exact ae _}}
def Gb:aN:=XN.add 209 (entry (fun(l:List bG)=>[.aw (l.map bG.enc)]) (fun l=>l.length<=4398046511104) (fun l=> .bool (dJ l)))
theorem C13L0_ok:aI Tryz.prog Gb:=T13m_ok.en Tryz.func209 fun l h=>vu l (by omega)
@[go_sem] theorem C13L0_old{g:FuncId}{xs:List A}(h:g≠209):Gb.f g xs=XN.f g xs:=aN.aV h
theorem yC(l:List bG)(h:l.length<=4398046511104):Gb.f 209 [.aw (l.map bG.enc)]=some (.bool (dJ l)):=aN.en (Γ:=XN) l h
@[go_sem] theorem l_counts_Right{l:List bG}(h:l.length<=4398046511104):Gb.f 209 [.aw (l.map bG.enc)]=some (.bool (dJ l)):=yC l h
def Gc:aN:=Gb.add 194 (entry (fun(l:List bG)=>[.aw (l.map bG.enc)]) (fun l=>l.length<=4398046511104) (fun l=> .bool (dJ l)))
theorem C13L1_ok:aI Tryz.prog Gc:=C13L0_ok.en Tryz.func194 fun l h=>Il l (by omega)
@[go_sem] theorem C13L1_old{g:FuncId}{xs:List A}(h:g≠194):Gc.f g xs=Gb.f g xs:=aN.aV h
theorem Am(l:List bG)(h:l.length<=4398046511104):Gc.f 194 [.aw (l.map bG.enc)]=some (.bool (dJ l)):=aN.en (Γ:=Gb) l h
@[go_sem] theorem l_ref13_Right{l:List bG}(h:l.length<=4398046511104):Gc.f 194 [.aw (l.map bG.enc)]=some (.bool (dJ l)):=Am l h
def Gd:aN:=Gc.add 199 (entry (fun(v:List bG×Int)=>[.aw (v.1.map bG.enc),.int .i64 v.2]) (fun v=>v.1.length<=4398046511104) (fun v=> .bool (a_ v.1 v.2)))
theorem C13L2_ok:aI Tryz.prog Gd:=C13L1_ok.en Tryz.func199 fun v h=>Lf v.1 v.2 (by omega)
@[go_sem] theorem C13L2_old{g:FuncId}{xs:List A}(h:g≠199):Gd.f g xs=Gc.f g xs:=aN.aV h
theorem BO(v:List bG×Int)(h:v.1.length<=4398046511104):Gd.f 199 [.aw (v.1.map bG.enc),.int .i64 v.2]=some (.bool (a_ v.1 v.2)):=aN.en (Γ:=Gc) v h
@[go_sem] theorem l_counts_Has{a:List bG}{b:Int}(h:a.length<=4398046511104):Gd.f 199 [.aw (a.map bG.enc),.int .i64 b]=some (.bool (a_ a b)):=BO (a,b) h
def Ge:aN:=Gd.add 193 (entry (fun(v:List bG×List bG)=>[.aw (v.1.map bG.enc),.aw (v.2.map bG.enc)]) (fun v=>v.1.length<=4398046511104/\v.2.length<=4398046511104) (fun v=> .bool (lU v.1 v.2)))
theorem C13L3_ok:aI Tryz.prog Ge:=C13L2_ok.en Tryz.func193 fun v h=>Lg v.1 v.2 (by omega) (by omega)
@[go_sem] theorem C13L3_old{g:FuncId}{xs:List A}(h:g≠193):Ge.f g xs=Gd.f g xs:=aN.aV h
theorem BP(v:List bG×List bG)(h:v.1.length<=4398046511104/\v.2.length<=4398046511104):Ge.f 193 [.aw (v.1.map bG.enc),.aw (v.2.map bG.enc)]=some (.bool (lU v.1 v.2)):=aN.en (Γ:=Gd) v h
@[go_sem] theorem l_ref13_Same{a:List bG}{b:List bG}(h:a.length<=4398046511104/\b.length<=4398046511104):Ge.f 193 [.aw (a.map bG.enc),.aw (b.map bG.enc)]=some (.bool (lU a b)):=BP (a,b) h
def JN:aN:=Ge.add 220 (entry (fun(l:List bG)=>[.aw (l.map bG.enc)]) (fun l=>l.length<=4398046511104) (fun l=> .aw ((fS (a_ l)).map bG.enc)))
theorem C13L4_ok:aI Tryz.prog JN:=C13L3_ok.en Tryz.func220 fun l h=>Dg l h
@[go_sem] theorem C13L4_old{g:FuncId}{xs:List A}(h:g≠220):JN.f g xs=Ge.f g xs:=aN.aV h
theorem DH(l:List bG)(h:l.length<=4398046511104):JN.f 220 [.aw (l.map bG.enc)]=some (.aw ((fS (a_ l)).map bG.enc)):=aN.en (Γ:=Ge) l h
@[go_sem] theorem l_counts_Of{l:List bG}(h:l.length<=4398046511104):JN.f 220 [.aw (l.map bG.enc)]=some (.aw ((fS (a_ l)).map bG.enc)):=DH l h
def O5:aN:=JN
theorem C13L5_ok:aI Tryz.prog O5:=C13L4_ok
@[go_sem] theorem C13L5_old{g:FuncId}{xs:List A}:O5.f g xs=JN.f g xs:=rfl
def JO:aN:=O5.add 187 (entry (fun(v:List bG×List Int)=>[.aw (v.1.map bG.enc),.aw (v.2.map (A.int .i64))]) (fun v=>v.1.length<=1000000/\v.2.length<=1000000) (fun v=> .aw ((fS (a_ (v.1++rC v.2))).map bG.enc)))
theorem C13L6_ok:aI Tryz.prog JO:=C13L5_ok.en Tryz.func187 fun v h=>Lu v.1 v.2 h.1 h.2
@[go_sem] theorem C13L6_old{g:FuncId}{xs:List A}(h:g≠187):JO.f g xs=O5.f g xs:=aN.aV h
theorem BQ(v:List bG×List Int)(h:v.1.length<=1000000/\v.2.length<=1000000):JO.f 187 [.aw (v.1.map bG.enc),.aw (v.2.map (A.int .i64))]=some (.aw ((fS (a_ (v.1++rC v.2))).map bG.enc)):=aN.en (Γ:=O5) v h
@[go_sem] theorem Lv{a:List bG}{b:List Int}(h:a.length<=1000000/\b.length<=1000000):JO.f 187 [.aw (a.map bG.enc),.aw (b.map (A.int .i64))]=some (.aw ((fS (a_ (a++rC b))).map bG.enc)):=BQ (a,b) h
def Vd:aN:=JO
theorem C13L7_ok:aI Tryz.prog Vd:=C13L6_ok
@[go_sem] theorem C13L7_old{g:FuncId}{xs:List A}:Vd.f g xs=JO.f g xs:=rfl
def Ve:aN:=Vd
theorem C13L8_ok:aI Tryz.prog Ve:=C13L7_ok
@[go_sem] theorem C13L8_old{g:FuncId}{xs:List A}:Ve.f g xs=Vd.f g xs:=rfl
def Vf:aN:=Ve
theorem C13L9_ok:aI Tryz.prog Vf:=C13L8_ok
@[go_sem] theorem C13L9_old{g:FuncId}{xs:List A}:Vf.f g xs=Ve.f g xs:=rfl
def Gf:aN:=Vf
theorem XO:aI Tryz.prog Gf:=C13L9_ok
@[go_sem] theorem C13L10_old{g:FuncId}{xs:List A}:Gf.f g xs=Vf.f g xs:=rfl
def yD:aN:=Gf.add 216 (entry (fun(l:List bG)=>[.aw (l.map bG.enc)]) (fun l=>l.length<=4398046511104) (fun l=> .int .i64 (kJ (fS (a_ l)))))
theorem XP:aI Tryz.prog yD:=XO.en Tryz.func216 fun l h=>Iq l h
@[go_sem] theorem C13L11_old{g:FuncId}{xs:List A}(h:g≠216):yD.f g xs=Gf.f g xs:=aN.aV h
theorem yE(l:List bG)(h:l.length<=4398046511104):yD.f 216 [.aw (l.map bG.enc)]=some (.int .i64 (kJ (fS (a_ l)))):=aN.en (Γ:=Gf) l h
@[go_sem] theorem l_counts_Most{l:List bG}(h:l.length<=4398046511104):yD.f 216 [.aw (l.map bG.enc)]=some (.int .i64 (kJ (fS (a_ l)))):=yE l h
def BR:aN:=yD
theorem JP:aI Tryz.prog BR:=XP
@[go_sem] theorem C13L12_old{g:FuncId}{xs:List A}:BR.f g xs=yD.f g xs:=rfl
@[go_sem] theorem C13L12_s:BR.pl yD:=⟨fun _=>rfl,fun _=>rfl,rfl,fun _=>rfl,rfl,fun _=>rfl,rfl⟩
theorem XQ{x:A}(h:fits (.int .i64) x): ∃n:Int,x= .int .i64 n/\True:=by simp only[fits]at h;obtain⟨n,rfl,_⟩:=h;exact⟨n,rfl,trivial⟩
theorem fits_run{x:List A}(h:eZ [.int .i64,.int .i64] x): ∃f t:Int,x=[.int .i64 f,.int .i64 t]:=by simp only[eZ,fits]at h;obtain⟨y,zs,rfl,⟨n,rfl,_⟩,y2,zs2,rfl,⟨m,rfl,_⟩,rfl⟩:=h;exact⟨n,m,rfl⟩
theorem XR{x:A}(h:fits (.rows [.int .i64,.int .i64]) x): ∃l:List bG,x= .aw (l.map bG.enc)/\l.length<=maxLen:=by simp only[fits]at h;obtain⟨es,rfl,hl,he⟩:=h;obtain⟨l,rfl,_⟩:=rK (f:=bG.enc) (P:=fun _=>True) (es:=es) (fun e hx=>by obtain⟨ys,rfl,hy⟩:=he e hx;obtain⟨r,c,rfl⟩:=fits_run (by simpa only[eZ,fits]using hy);exact⟨⟨r,c⟩,rfl,trivial⟩);exact⟨l,rfl,by simpa using hl⟩
set_option maxHeartbeats 4000000
def T12z:aN:=Bv
theorem tV:aI Tryz.prog T12z:=KV _
@[go_sem] theorem T12z_eq:T12z=Bv:=rfl
structure fp where
 r:Int
 c:Int
 deriving DecidableEq,Inhabited
def fp.cells(v:fp):List A:=[.int .i64 v.r,.int .i64 v.c]
def fp.enc(v:fp):A:= .agg v.cells
@[go_sem] theorem fp.vn{a b:Int}:fp.enc ⟨a,b⟩= .agg [.int .i64 a,.int .i64 b]:=rfl
theorem fp.iP(v w:fp)(h:v.enc=w.enc):v=w:=by cases v;cases w;simpa[fp.enc,fp.cells]using h
@[simp] theorem map_ver_inj{l m:List fp}:(l.map fp.enc=m.map fp.enc)=(l=m):=map_inj fp.iP
def cv(v:fp):Bool:=decide (1<=v.r)&&decide (v.r<=16)&&decide (1<=v.c)&&decide (v.c<=1099511627776)
def Ed(a b:fp):Bool:=decide (a.r<b.r)||(a.r==b.r)&&decide (a.c<b.c)
def mj(a b:fp):Int:=if a=b then 0 else if Ed a b then-1 else 1
theorem uz(r c:Int):bj Tryz.prog 161 [.agg [.int .i64 r,.int .i64 c]] (· = .bool (cv ⟨r,c⟩)):=by refine aF tV mixed Tryz.func161 ?_;unfold Tryz.f161;by_cases h1:1<=r;{by_cases h2:r<=16;{by_cases h3:1<=c;{simp-implicitDefEqProofs (disch:=first|omega|decide) only[go_sem,↓reduceIte,seval,h1,h2,h3,cv]};{simp-implicitDefEqProofs (disch:=first|omega|decide) only[go_sem,↓reduceIte,seval,h1,h2,h3,cv]}};{simp-implicitDefEqProofs (disch:=first|omega|decide) only[go_sem,↓reduceIte,seval,h1,h2,cv]}};{simp-implicitDefEqProofs (disch:=first|omega|decide) only[go_sem,↓reduceIte,seval,h1,cv]}
theorem sd(r c:Int):bj Tryz.prog 101 [.agg [.int .i64 r,.int .i64 c]] (· = .bool (cv ⟨r,c⟩)):=by refine aF tV mixed Tryz.func101 ?_;unfold Tryz.f101;by_cases h1:1<=r;{by_cases h2:r<=16;{by_cases h3:1<=c;{simp-implicitDefEqProofs (disch:=first|omega|decide) only[go_sem,↓reduceIte,seval,h1,h2,h3,cv]};{simp-implicitDefEqProofs (disch:=first|omega|decide) only[go_sem,↓reduceIte,seval,h1,h2,h3,cv]}};{simp-implicitDefEqProofs (disch:=first|omega|decide) only[go_sem,↓reduceIte,seval,h1,h2,cv]}};{simp-implicitDefEqProofs (disch:=first|omega|decide) only[go_sem,↓reduceIte,seval,h1,cv]}
theorem se(a b:fp):bj Tryz.prog 190 [.agg [.int .i64 a.r,.int .i64 a.c],.agg [.int .i64 b.r,.int .i64 b.c]] (· = .int .i64 (mj a b)):=by refine aF tV mixed Tryz.func190 ?_;unfold Tryz.f190;obtain⟨r,c⟩:=a;obtain⟨r',c'⟩:=b;by_cases h1:r=r';{subst h1;by_cases h2:c=c';{subst h2;(have e:mj ⟨r,c⟩ ⟨r,c⟩=0:=by simp[mj]);(have e1:(r==r)=true:=by simp);(have e2:(c==c)=true:=by simp);simp-implicitDefEqProofs (disch:=first|omega|decide) only[go_sem,↓reduceIte,seval,e,e1,e2]};{(have h3:(c==c')=false:=by simpa using h2);(have e1:(r==r)=true:=by simp);(have h4: ¬r<r:=by omega);by_cases h5:c<c';{(have e:mj ⟨r,c⟩ ⟨r,c'⟩= -1:=by simp[mj,Ed,h2,h5]);simp-implicitDefEqProofs (disch:=first|omega|decide) only[go_sem,↓reduceIte,seval,e,e1,h3,h4,h5]};{(have e:mj ⟨r,c⟩ ⟨r,c'⟩=1:=by simp[mj,Ed,h2,h5]);simp-implicitDefEqProofs (disch:=first|omega|decide) only[go_sem,↓reduceIte,seval,e,e1,h3,h4,h5]}}};{(have h3:(r==r')=false:=by simpa using h1);by_cases h4:r<r';{(have e:mj ⟨r,c⟩ ⟨r',c'⟩= -1:=by simp[mj,Ed,h1,h4]);simp-implicitDefEqProofs (disch:=first|omega|decide) only[go_sem,↓reduceIte,seval,e,h3,h4]};{(have e:mj ⟨r,c⟩ ⟨r',c'⟩=1:=by simp[mj,Ed,h1,h4]);simp-implicitDefEqProofs (disch:=first|omega|decide) only[go_sem,↓reduceIte,seval,e,h3,h4]}}
theorem An(a b:fp):bj Tryz.prog 134 [.agg [.int .i64 a.r,.int .i64 a.c],.agg [.int .i64 b.r,.int .i64 b.c]] (· = .bool (Ed a b)):=by refine aF tV mixed Tryz.func134 ?_;unfold Tryz.f134;obtain⟨r,c⟩:=a;obtain⟨r',c'⟩:=b;by_cases h4:r<r';{simp-implicitDefEqProofs (disch:=first|omega|decide) only[go_sem,↓reduceIte,seval,h4,Ed]};{cases h3:r==r'<;>simp-implicitDefEqProofs (disch:=first|omega|decide) only[go_sem,↓reduceIte,seval,h3,h4,Ed]}
def T12a:aN:=T12z.add 161 (entry (fun(v:Int×Int)=>[.agg [.int .i64 v.1,.int .i64 v.2]]) (fun v=>True) (fun v=> .bool (cv ⟨v.1,v.2⟩)))
theorem T12a_ok:aI Tryz.prog T12a:=tV.en Tryz.func161 fun v h=>uz v.1 v.2
theorem yF(v:Int×Int)(h:True):T12a.f 161 [.agg [.int .i64 v.1,.int .i64 v.2]]=some (.bool (cv ⟨v.1,v.2⟩)):=aN.en (Γ:=T12z) v h
def T12b:aN:=T12a.add 101 (entry (fun(v:Int×Int)=>[.agg [.int .i64 v.1,.int .i64 v.2]]) (fun v=>True) (fun v=> .bool (cv ⟨v.1,v.2⟩)))
theorem T12b_ok:aI Tryz.prog T12b:=T12a_ok.en Tryz.func101 fun v h=>sd v.1 v.2
@[go_sem] theorem T12b_old{g:FuncId}{xs:List A}(h:g≠101):T12b.f g xs=T12a.f g xs:=aN.aV h
def T12c:aN:=T12b.add 190 (entry (fun(v:(Int×Int)×(Int×Int))=>[.agg [.int .i64 v.1.1,.int .i64 v.1.2],.agg [.int .i64 v.2.1,.int .i64 v.2.2]]) (fun v=>True) (fun v=> .int .i64 (mj ⟨v.1.1,v.1.2⟩ ⟨v.2.1,v.2.2⟩)))
theorem T12c_ok:aI Tryz.prog T12c:=T12b_ok.en Tryz.func190 fun v h=>se ⟨v.1.1,v.1.2⟩ ⟨v.2.1,v.2.2⟩
@[go_sem] theorem T12c_old{g:FuncId}{xs:List A}(h:g≠190):T12c.f g xs=T12b.f g xs:=aN.aV h
def T12d:aN:=T12c.add 134 (entry (fun(v:(Int×Int)×(Int×Int))=>[.agg [.int .i64 v.1.1,.int .i64 v.1.2],.agg [.int .i64 v.2.1,.int .i64 v.2.2]]) (fun v=>True) (fun v=> .bool (Ed ⟨v.1.1,v.1.2⟩ ⟨v.2.1,v.2.2⟩)))
theorem T12d_ok:aI Tryz.prog T12d:=T12c_ok.en Tryz.func134 fun v h=>An ⟨v.1.1,v.1.2⟩ ⟨v.2.1,v.2.2⟩
@[go_sem] theorem T12d_old{g:FuncId}{xs:List A}(h:g≠134):T12d.f g xs=T12c.f g xs:=aN.aV h
@[go_sem] theorem t_version_Right{r c:Int}:T12a.f 161 [.agg [.int .i64 r,.int .i64 c]]=some (.bool (cv ⟨r,c⟩)):=yF (r,c) trivial
def T12e:aN:=T12d
theorem T12e_ok:aI Tryz.prog T12e:=T12d_ok
@[go_sem] theorem T12e_old{g:FuncId}{xs:List A}:T12e.f g xs=T12d.f g xs:=rfl
end Go.Proofs.YtfnohjheonlnmaaGreat
