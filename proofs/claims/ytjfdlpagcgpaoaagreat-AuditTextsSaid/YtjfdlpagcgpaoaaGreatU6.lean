/- What the laws of this claim rest on: the abstract executor, its soundness, and what the functions compute on pure data. No condition. -/
import Derived.Test.YtjfdlpagcgpaoaaGreatU5
import Derived.Shelf.SlSortCmp.NoneTotal
import Derived.Ground.SlsfProg
import Derived.Test.YtjfdlpagcgpaoaaGreatProg
set_option linter.unusedVariables false
set_option linter.unusedSimpArgs false
namespace Go.Proofs.YtjfdlpagcgpaoaaGreat
open Go.Abs
set_option linter.unusedSimpArgs false
set_option linter.unusedVariables false
set_option maxRecDepth 20000
set_option maxHeartbeats 4000000
def T12z:Tab:=tab0
theorem T12z_ok:TabOK Tryz.prog T12z:=tab0_ok _
@[go_sem] theorem T12z_eq:T12z = tab0:=rfl
structure Ver where
 r:Int
 c:Int
 deriving DecidableEq,Inhabited
def Ver.cells (v:Ver):List A:=[.int .i64 v.r,.int .i64 v.c]
def Ver.enc (v:Ver):A:=.agg v.cells
@[go_sem] theorem Ver.enc_eq {a b:Int}:Ver.enc ⟨a,b⟩ = .agg [.int .i64 a,.int .i64 b]:=rfl
theorem Ver.enc_inj (v w:Ver) (h:v.enc = w.enc):v = w:=by
 cases v; cases w; simpa [Ver.enc,Ver.cells] using h
@[simp] theorem map_ver_inj {l m:List Ver}:(l.map Ver.enc = m.map Ver.enc) = (l = m):=map_inj Ver.enc_inj
def rightV (v:Ver):Bool:=decide (1 ≤ v.r) && decide (v.r ≤ 16) && decide (1 ≤ v.c) && decide (v.c ≤ 1099511627776)
def ltV (a b:Ver):Bool:=decide (a.r < b.r) || (a.r == b.r) && decide (a.c < b.c)
def cmpV (a b:Ver):Int:=if a = b then 0 else if ltV a b then -1 else 1
theorem ok_version_Right:codeOK Tryz.prog T12z Tryz.f141.ntmps (Tryz.f141.body.getD .skip) = true:=by kernel_rfl
theorem c_version_Right (r c:Int):CallA Tryz.prog 141 [.agg [.int .i64 r,.int .i64 c]] (· = .bool (rightV ⟨r,c⟩)):=by
 refine callA_of_body T12z_ok mixed Tryz.func141 rfl (Nat.le_of_ble_eq_true rfl) ok_version_Right ?_
 unfold Tryz.f141
 by_cases h1:1 ≤ r
 ·by_cases h2:r ≤ 16
  ·by_cases h3:1 ≤ c
   ·simp -implicitDefEqProofs (maxSteps:=600000) (disch:=(first | omega | decide)) only [go_sem,↓reduceIte,seval,h1,h2,h3,rightV]
   ·simp -implicitDefEqProofs (maxSteps:=600000) (disch:=(first | omega | decide)) only [go_sem,↓reduceIte,seval,h1,h2,h3,rightV]
  ·simp -implicitDefEqProofs (maxSteps:=600000) (disch:=(first | omega | decide)) only [go_sem,↓reduceIte,seval,h1,h2,rightV]
 ·simp -implicitDefEqProofs (maxSteps:=600000) (disch:=(first | omega | decide)) only [go_sem,↓reduceIte,seval,h1,rightV]
theorem ok_ref12_Right:codeOK Tryz.prog T12z Tryz.f94.ntmps (Tryz.f94.body.getD .skip) = true:=by kernel_rfl
theorem c_ref12_Right (r c:Int):CallA Tryz.prog 94 [.agg [.int .i64 r,.int .i64 c]] (· = .bool (rightV ⟨r,c⟩)):=by
 refine callA_of_body T12z_ok mixed Tryz.func94 rfl (Nat.le_of_ble_eq_true rfl) ok_ref12_Right ?_
 unfold Tryz.f94
 by_cases h1:1 ≤ r
 ·by_cases h2:r ≤ 16
  ·by_cases h3:1 ≤ c
   ·simp -implicitDefEqProofs (maxSteps:=600000) (disch:=(first | omega | decide)) only [go_sem,↓reduceIte,seval,h1,h2,h3,rightV]
   ·simp -implicitDefEqProofs (maxSteps:=600000) (disch:=(first | omega | decide)) only [go_sem,↓reduceIte,seval,h1,h2,h3,rightV]
  ·simp -implicitDefEqProofs (maxSteps:=600000) (disch:=(first | omega | decide)) only [go_sem,↓reduceIte,seval,h1,h2,rightV]
 ·simp -implicitDefEqProofs (maxSteps:=600000) (disch:=(first | omega | decide)) only [go_sem,↓reduceIte,seval,h1,rightV]
theorem ok_version_Cmp:codeOK Tryz.prog T12z Tryz.f195.ntmps (Tryz.f195.body.getD .skip) = true:=by kernel_rfl
theorem c_version_Cmp (a b:Ver):CallA Tryz.prog 195 [.agg [.int .i64 a.r,.int .i64 a.c],.agg [.int .i64 b.r,.int .i64 b.c]] (· = .int .i64 (cmpV a b)):=by
 refine callA_of_body T12z_ok mixed Tryz.func195 rfl (Nat.le_of_ble_eq_true rfl) ok_version_Cmp ?_
 unfold Tryz.f195
 obtain ⟨r,c⟩:=a
 obtain ⟨r',c'⟩:=b
 by_cases h1:r = r'
 ·subst h1
  by_cases h2:c = c'
  ·subst h2
   have e:cmpV ⟨r,c⟩ ⟨r,c⟩ = 0:=by simp [cmpV]
   have e1:(r == r) = true:=by simp
   have e2:(c == c) = true:=by simp
   simp -implicitDefEqProofs (maxSteps:=600000) (disch:=(first | omega | decide)) only [go_sem,↓reduceIte,seval,e,e1,e2]
  ·have h3:(c == c') = false:=by simpa using h2
   have e1:(r == r) = true:=by simp
   have h4:¬ r < r:=by omega
   by_cases h5:c < c'
   ·have e:cmpV ⟨r,c⟩ ⟨r,c'⟩ = -1:=by simp [cmpV,ltV,h2,h5]
    simp -implicitDefEqProofs (maxSteps:=600000) (disch:=(first | omega | decide)) only [go_sem,↓reduceIte,seval,e,e1,h3,h4,h5]
   ·have e:cmpV ⟨r,c⟩ ⟨r,c'⟩ = 1:=by simp [cmpV,ltV,h2,h5]
    simp -implicitDefEqProofs (maxSteps:=600000) (disch:=(first | omega | decide)) only [go_sem,↓reduceIte,seval,e,e1,h3,h4,h5]
 ·have h3:(r == r') = false:=by simpa using h1
  by_cases h4:r < r'
  ·have e:cmpV ⟨r,c⟩ ⟨r',c'⟩ = -1:=by simp [cmpV,ltV,h1,h4]
   simp -implicitDefEqProofs (maxSteps:=600000) (disch:=(first | omega | decide)) only [go_sem,↓reduceIte,seval,e,h3,h4]
  ·have e:cmpV ⟨r,c⟩ ⟨r',c'⟩ = 1:=by simp [cmpV,ltV,h1,h4]
   simp -implicitDefEqProofs (maxSteps:=600000) (disch:=(first | omega | decide)) only [go_sem,↓reduceIte,seval,e,h3,h4]
theorem ok_ref12_Less:codeOK Tryz.prog T12z Tryz.f125.ntmps (Tryz.f125.body.getD .skip) = true:=by kernel_rfl
theorem c_ref12_Less (a b:Ver):CallA Tryz.prog 125 [.agg [.int .i64 a.r,.int .i64 a.c],.agg [.int .i64 b.r,.int .i64 b.c]] (· = .bool (ltV a b)):=by
 refine callA_of_body T12z_ok mixed Tryz.func125 rfl (Nat.le_of_ble_eq_true rfl) ok_ref12_Less ?_
 unfold Tryz.f125
 obtain ⟨r,c⟩:=a
 obtain ⟨r',c'⟩:=b
 by_cases h4:r < r'
 ·simp -implicitDefEqProofs (maxSteps:=600000) (disch:=(first | omega | decide)) only [go_sem,↓reduceIte,seval,h4,ltV]
 ·cases h3:r == r' <;> simp -implicitDefEqProofs (maxSteps:=600000) (disch:=(first | omega | decide)) only [go_sem,↓reduceIte,seval,h3,h4,ltV]
noncomputable def T12a:Tab:=T12z.add 141 (entry (fun (v:Int × Int)=>[.agg [.int .i64 v.1,.int .i64 v.2]]) (fun v=>True) (fun v=>.bool (rightV ⟨v.1,v.2⟩)))
theorem T12a_ok:TabOK Tryz.prog T12a:=T12z_ok.add (callable_of Tryz.func141 (by kernel_rfl) (by kernel_rfl)) (entry_ok fun v h=>c_version_Right v.1 v.2)
theorem T12a_version_Right (v:Int × Int) (h:True):T12a.f 141 [.agg [.int .i64 v.1,.int .i64 v.2]] = some (.bool (rightV ⟨v.1,v.2⟩)):=
 (Tab.add_eq:T12a.f 141 [.agg [.int .i64 v.1,.int .i64 v.2]] = (entry (fun (v:Int × Int)=>[.agg [.int .i64 v.1,.int .i64 v.2]]) (fun v=>True) (fun v=>.bool (rightV ⟨v.1,v.2⟩))) [.agg [.int .i64 v.1,.int .i64 v.2]]).trans (entry_eq (fun i j h=>by first | (cases i; cases j; rfl; done) | simpa [Prod.ext_iff,and_assoc] using h | (simp at h; omega) | (simp at h; exact Prod.ext h.1 (Prod.ext h.2.1 (by omega)))) v h)
noncomputable def T12b:Tab:=T12a.add 94 (entry (fun (v:Int × Int)=>[.agg [.int .i64 v.1,.int .i64 v.2]]) (fun v=>True) (fun v=>.bool (rightV ⟨v.1,v.2⟩)))
theorem T12b_ok:TabOK Tryz.prog T12b:=T12a_ok.add (callable_of Tryz.func94 (by kernel_rfl) (by kernel_rfl)) (entry_ok fun v h=>c_ref12_Right v.1 v.2)
@[go_sem] theorem T12b_old {g:FuncId} {xs:List A} (h:g ≠ 94):T12b.f g xs = T12a.f g xs:=Tab.add_ne h
noncomputable def T12c:Tab:=T12b.add 195 (entry (fun (v:(Int × Int) × (Int × Int))=>[.agg [.int .i64 v.1.1,.int .i64 v.1.2],.agg [.int .i64 v.2.1,.int .i64 v.2.2]]) (fun v=>True) (fun v=>.int .i64 (cmpV ⟨v.1.1,v.1.2⟩ ⟨v.2.1,v.2.2⟩)))
theorem T12c_ok:TabOK Tryz.prog T12c:=T12b_ok.add (callable_of Tryz.func195 (by kernel_rfl) (by kernel_rfl)) (entry_ok fun v h=>c_version_Cmp ⟨v.1.1,v.1.2⟩ ⟨v.2.1,v.2.2⟩)
@[go_sem] theorem T12c_old {g:FuncId} {xs:List A} (h:g ≠ 195):T12c.f g xs = T12b.f g xs:=Tab.add_ne h
noncomputable def T12d:Tab:=T12c.add 125 (entry (fun (v:(Int × Int) × (Int × Int))=>[.agg [.int .i64 v.1.1,.int .i64 v.1.2],.agg [.int .i64 v.2.1,.int .i64 v.2.2]]) (fun v=>True) (fun v=>.bool (ltV ⟨v.1.1,v.1.2⟩ ⟨v.2.1,v.2.2⟩)))
theorem T12d_ok:TabOK Tryz.prog T12d:=T12c_ok.add (callable_of Tryz.func125 (by kernel_rfl) (by kernel_rfl)) (entry_ok fun v h=>c_ref12_Less ⟨v.1.1,v.1.2⟩ ⟨v.2.1,v.2.2⟩)
@[go_sem] theorem T12d_old {g:FuncId} {xs:List A} (h:g ≠ 125):T12d.f g xs = T12c.f g xs:=Tab.add_ne h
@[go_sem] theorem t_version_Right {r c:Int}:T12a.f 141 [.agg [.int .i64 r,.int .i64 c]] = some (.bool (rightV ⟨r,c⟩)):=T12a_version_Right (r,c) trivial
def digD (n:Nat):UInt8:=UInt8.ofNat (48 + n % 10)
def digN (n:Nat):List UInt8:=if h:n < 10 then [digD n] else digN (n / 10) ++ [digD n]
termination_by n
decreasing_by omega
theorem digN_small {n:Nat} (h:n < 10):digN n = [digD n]:=by rw [digN,dif_pos h]
theorem digN_step {n:Nat} (h:¬ n < 10):digN n = digN (n / 10) ++ [digD n]:=by rw [digN,dif_neg h]
theorem digD_val {n:Nat}:((digD n).toNat:Int) = 48 + (n % 10:Nat):=by
 unfold digD
 rw [UInt8.toNat_ofNat']
 omega
noncomputable def T12e:Tab:=T12d
theorem T12e_ok:TabOK Tryz.prog T12e:=T12d_ok
@[go_sem] theorem T12e_old {g:FuncId} {xs:List A}:T12e.f g xs = T12d.f g xs:=rfl
end Go.Proofs.YtjfdlpagcgpaoaaGreat
namespace Go.Proofs.YtjfdlpagcgpaoaaGreat
open Go.Abs
set_option linter.unusedSimpArgs false
set_option linter.unusedVariables false
set_option maxRecDepth 20000
set_option maxHeartbeats 8000000
@[go_sem] theorem Known.enc_eq {n:Int} {rs:List Run}:Known.enc ⟨n,rs⟩ = .agg [.int .i64 n,.slc (rs.map Run.enc)]:=rfl
theorem Known.enc_inj (v w:Known) (h:v.enc = w.enc):v = w:=by
 cases v; cases w; simpa [Known.enc,Known.cells] using h
@[simp] theorem map_known_inj {l m:List Known}:(l.map Known.enc = m.map Known.enc) = (l = m):=map_inj Known.enc_inj
theorem known_get {l:List Known} {k:Nat} (h:k < l.length):(l.map Known.enc)[k]? = some (.agg [.int .i64 l[k].n,.slc (l[k].rs.map Run.enc)]):=by
 rw [List.getElem?_map,List.getElem?_eq_getElem h]; rfl
theorem ok_vset_replica:codeOK Tryz.prog C13L12 Tryz.f178.ntmps (Tryz.f178.body.getD .skip) = true:=by kernel_rfl
theorem c_replica (n:Int):CallA Tryz.prog 178 [.int .i64 n] (· = .bool (repOK n)):=by
 refine callA_of_body C13L12_ok mixed Tryz.func178 rfl (Nat.le_of_ble_eq_true rfl) ok_vset_replica ?_
 unfold Tryz.f178
 by_cases h1:1 ≤ n
 ·simp -implicitDefEqProofs (maxSteps:=600000) (disch:=(first | omega | decide)) only [go_sem,↓reduceIte,seval,h1,repOK]
 ·simp -implicitDefEqProofs (maxSteps:=600000) (disch:=(first | omega | decide)) only [go_sem,↓reduceIte,seval,h1,repOK]
noncomputable def K14a:Tab:=C13L12.add 178 (entry (fun (n:Int)=>[.int .i64 n]) (fun n=>True) (fun n=>.bool (repOK n)))
theorem K14a_ok:TabOK Tryz.prog K14a:=C13L12_ok.add (callable_of Tryz.func178 (by kernel_rfl) (by kernel_rfl)) (entry_ok fun n h=>c_replica n)
@[go_sem] theorem K14a_old {g:FuncId} {xs:List A} (h:g ≠ 178):K14a.f g xs = C13L12.f g xs:=Tab.add_ne h
theorem K14a_vset_replica (n:Int) (h:True):K14a.f 178 [.int .i64 n] = some (.bool (repOK n)):=
 (Tab.add_eq:K14a.f 178 [.int .i64 n] = (entry (fun (n:Int)=>[.int .i64 n]) (fun n=>True) (fun n=>.bool (repOK n))) [.int .i64 n]).trans (entry_eq (fun i j h=>by first | (cases i; cases j; rfl; done) | simpa [Prod.ext_iff,and_assoc] using h | (simp at h; omega) | (simp at h; exact Prod.ext h.1 (Prod.ext h.2.1 (by omega)))) n h)
@[go_sem] theorem k_replica {n:Int}:K14a.f 178 [.int .i64 n] = some (.bool (repOK n)):=K14a_vset_replica n trivial
noncomputable def K14b:Tab:=K14a.add 141 (entry (fun (v:Int × Int)=>[.agg [.int .i64 v.1,.int .i64 v.2]]) (fun v=>True) (fun v=>.bool (rightV ⟨v.1,v.2⟩)))
theorem K14b_ok:TabOK Tryz.prog K14b:=K14a_ok.add (callable_of Tryz.func141 (by kernel_rfl) (by kernel_rfl)) (entry_ok fun v h=>c_version_Right v.1 v.2)
@[go_sem] theorem K14b_old {g:FuncId} {xs:List A} (h:g ≠ 141):K14b.f g xs = K14a.f g xs:=Tab.add_ne h
theorem K14b_version_Right (v:Int × Int) (h:True):K14b.f 141 [.agg [.int .i64 v.1,.int .i64 v.2]] = some (.bool (rightV ⟨v.1,v.2⟩)):=
 (Tab.add_eq:K14b.f 141 [.agg [.int .i64 v.1,.int .i64 v.2]] = (entry (fun (v:Int × Int)=>[.agg [.int .i64 v.1,.int .i64 v.2]]) (fun v=>True) (fun v=>.bool (rightV ⟨v.1,v.2⟩))) [.agg [.int .i64 v.1,.int .i64 v.2]]).trans (entry_eq (fun i j h=>by first | (cases i; cases j; rfl; done) | simpa [Prod.ext_iff,and_assoc] using h | (simp at h; omega) | (simp at h; exact Prod.ext h.1 (Prod.ext h.2.1 (by omega)))) v h)
noncomputable def K14c:Tab:=K14b.add 94 (entry (fun (v:Int × Int)=>[.agg [.int .i64 v.1,.int .i64 v.2]]) (fun v=>True) (fun v=>.bool (rightV ⟨v.1,v.2⟩)))
theorem K14c_ok:TabOK Tryz.prog K14c:=K14b_ok.add (callable_of Tryz.func94 (by kernel_rfl) (by kernel_rfl)) (entry_ok fun v h=>c_ref12_Right v.1 v.2)
@[go_sem] theorem K14c_old {g:FuncId} {xs:List A} (h:g ≠ 94):K14c.f g xs = K14b.f g xs:=Tab.add_ne h
@[go_sem] theorem K14c_eff {g:FuncId}:K14c.eff g = false:=rfl
@[go_sem] theorem K14c_fix {n:Nat}:K14c.fix n = false:=rfl
@[go_sem] theorem K14c_ords {n:Nat}:K14c.ords n = []:=rfl
theorem K14c_ref12_Right (v:Int × Int) (h:True):K14c.f 94 [.agg [.int .i64 v.1,.int .i64 v.2]] = some (.bool (rightV ⟨v.1,v.2⟩)):=
 (Tab.add_eq:K14c.f 94 [.agg [.int .i64 v.1,.int .i64 v.2]] = (entry (fun (v:Int × Int)=>[.agg [.int .i64 v.1,.int .i64 v.2]]) (fun v=>True) (fun v=>.bool (rightV ⟨v.1,v.2⟩))) [.agg [.int .i64 v.1,.int .i64 v.2]]).trans (entry_eq (fun i j h=>by first | (cases i; cases j; rfl; done) | simpa [Prod.ext_iff,and_assoc] using h | (simp at h; omega) | (simp at h; exact Prod.ext h.1 (Prod.ext h.2.1 (by omega)))) v h)
@[go_sem] theorem k_version_Right {r c:Int}:K14b.f 141 [.agg [.int .i64 r,.int .i64 c]] = some (.bool (rightV ⟨r,c⟩)):=K14b_version_Right (r,c) trivial
@[go_sem] theorem k_ref12_Right {r c:Int}:K14c.f 94 [.agg [.int .i64 r,.int .i64 c]] = some (.bool (rightV ⟨r,c⟩)):=K14c_ref12_Right (r,c) trivial
def sumK (s:List Known):Nat:=(s.map fun k=>k.rs.length).sum
def smallK (s:List Known):Prop:=s.length ≤ 1000000 ∧ sumK s ≤ 1000000
theorem sumK_mem {s:List Known} {k:Known} (h:k ∈ s):k.rs.length ≤ sumK s:=by
 induction s with
 | nil=>cases h
 | cons q s ih=>
  simp only [sumK,List.map_cons,List.sum_cons]
  rcases List.mem_cons.1 h with rfl | h
  ·omega
  ·have:=ih h; simp only [sumK] at this; omega
theorem runsK_len (s:List Known) (n:Int):(runsK s n).length ≤ sumK s:=by
 induction s with
 | nil=>simp [runsK,sumK]
 | cons q s ih=>
  simp only [runsK,sumK,List.map_cons,List.sum_cons] at ih ⊢
  split
  ·rw [List.length_append]; omega
  ·omega
theorem sumK_append (s t:List Known):sumK (s ++ t) = sumK s + sumK t:=by simp [sumK]
theorem sumK_take {s:List Known} {k:Nat} (h:k < s.length):sumK (s.take k) + s[k].rs.length ≤ sumK s:=by
 have e:s = s.take k ++ s[k] :: s.drop (k + 1):=by
  rw [← List.drop_eq_getElem_cons h,List.take_append_drop]
 have h2:sumK s = sumK (s.take k) + sumK (s[k] :: s.drop (k + 1)):=by
  rw [← sumK_append,← e]
 have h3:sumK (s[k] :: s.drop (k + 1)) = s[k].rs.length + sumK (s.drop (k + 1)):=by unfold sumK; rw [List.map_cons,List.sum_cons]
 omega
theorem ok_vset_Right:codeOK Tryz.prog K14c Tryz.f135.ntmps (Tryz.f135.body.getD .skip) = true:=by kernel_rfl
theorem c_vset_Right (s:List Known) (hs:smallK s):CallA Tryz.prog 135 [.slc (s.map Known.enc)] (· = .bool (rightK s)):=by
 refine callA_of_body K14c_ok mixed Tryz.func135 rfl (Nat.le_of_ble_eq_true rfl) ok_vset_Right ?_
 unfold Tryz.f135
 obtain ⟨hs1,hs2⟩:=hs
 simp -implicitDefEqProofs (maxSteps:=600000) (disch:=(first | omega | decide)) only [go_sem,↓reduceIte,seval,List.length_map]
 refine wpA_loop [0,6,7] (ι:={q:Nat × Int // q.1 ≤ s.length ∧ rightK s = goK q.2 (s.drop q.1)}) (fun q=>[(8,.int .i64 q.1.1),(3,.int .i64 q.1.2)]) (fun _=>[]) (fun q=>s.length - q.1.1) ⟨(0,0),by simp,rfl⟩ (Nat.zero_le _) ?_ ?_
 ·simp -implicitDefEqProofs (maxSteps:=600000) (disch:=(first | omega | decide)) only [go_sem,↓reduceIte,seval]
 ·rintro ⟨⟨k,p⟩,hk,hd⟩
  simp only at hk hd ⊢
  by_cases hlt:k < s.length
  ·have hlt':(k:Int) < (s.length:Int):=by omega
   have e1:=known_get hlt
   have hm:=sumK_mem (List.getElem_mem hlt)
   rw [List.drop_eq_getElem_cons hlt] at hd
   generalize hx:s[k] = x at *
   obtain ⟨n,rs⟩:=x
   simp only [goK,oneK] at hd hm
   have next:rightK s = goK n (s.drop (k + 1)) → ∃ j:{q:Nat × Int // q.1 ≤ s.length ∧ rightK s = goK q.2 (s.drop q.1)},((k:Int) + 1 = (j.1.1:Int) ∧ n = j.1.2) ∧ s.length - j.1.1 < s.length - k:=fun h=>⟨⟨(k + 1,n),hlt,h⟩,⟨by simp,rfl⟩,by show s.length - (k + 1) < s.length - k; omega⟩
   cases h1:repOK n with
   | false=>
    have hh:rightK s = false:=by rw [hd,h1]; simp
    simp -implicitDefEqProofs (maxSteps:=600000) (disch:=(first | omega | decide)) only [go_sem,↓reduceIte,seval,hlt',e1,h1,hh,List.length_map]
   | true=>
    by_cases h2:n ≤ p
    ·have hh:rightK s = false:=by rw [hd,decide_eq_false (show ¬ p < n by omega)]; simp
     simp -implicitDefEqProofs (maxSteps:=600000) (disch:=(first | omega | decide)) only [go_sem,↓reduceIte,seval,hlt',e1,h1,h2,hh,List.length_map]
    ·cases h3:((rs.length:Int) == 0) with
     | true=>
          have:rs = []:=List.length_eq_zero_iff.1 (by have:(rs.length:Int) = 0:=by simpa using h3
                                                      omega)
          have hh:rightK s = false:=by rw [hd,this]; simp
          simp -implicitDefEqProofs (maxSteps:=600000) (disch:=(first | omega | decide)) only [go_sem,↓reduceIte,seval,hlt',e1,h1,h2,h3,hh,List.length_map]
     | false=>
          have hne:rs.isEmpty = false:=by
           cases rs with
           | nil=>simp at h3
           | cons _ _=>rfl
          cases h4:rightL rs with
          | false=>
           have hh:rightK s = false:=by rw [hd,h4]; simp
           simp -implicitDefEqProofs (maxSteps:=600000) (disch:=(first | omega | decide)) only [go_sem,↓reduceIte,seval,hlt',e1,h1,h2,h3,h4,hh,List.length_map]
          | true=>
           have hh:rightK s = goK n (s.drop (k + 1)):=by rw [hd,h1,h4,hne,decide_eq_true (show p < n by omega)]; simp
           simp -implicitDefEqProofs (maxSteps:=600000) (disch:=(first | omega | decide)) only [go_sem,↓reduceIte,seval,hlt',e1,h1,h2,h3,h4,wrap_i64,List.length_map]
           exact next hh
  ·have hlt':¬ (k:Int) < (s.length:Int):=by omega
   have hh:rightK s = true:=by rw [hd,List.drop_of_length_le (by omega)]; rfl
   simp -implicitDefEqProofs (maxSteps:=600000) (disch:=(first | omega | decide)) only [go_sem,↓reduceIte,seval,hlt',hh,List.length_map]
end Go.Proofs.YtjfdlpagcgpaoaaGreat
namespace Go.Proofs.YtjfdlpagcgpaoaaGreat
open Go.Abs
set_option linter.unusedSimpArgs false
set_option linter.unusedVariables false
set_option maxRecDepth 20000
set_option maxHeartbeats 8000000
def prevK (s:List Known) (k:Nat):Int:=if k = 0 then 0 else s[k - 1]!.n
theorem ok_ref14_Right:codeOK Tryz.prog K14c Tryz.f128.ntmps (Tryz.f128.body.getD .skip) = true:=by kernel_rfl
theorem c_ref14_Right (s:List Known) (hs:smallK s):CallA Tryz.prog 128 [.slc (s.map Known.enc)] (· = .bool (rightK s)):=by
 refine callA_of_body K14c_ok mixed Tryz.func128 rfl (Nat.le_of_ble_eq_true rfl) ok_ref14_Right ?_
 unfold Tryz.f128
 obtain ⟨hs1,hs2⟩:=hs
 simp -implicitDefEqProofs (maxSteps:=600000) (disch:=(first | omega | decide)) only [go_sem,↓reduceIte,seval,List.length_map]
 refine wpA_loop [0] (ι:={k:Nat // k ≤ s.length ∧ rightK s = goK (prevK s k) (s.drop k)}) (fun q=>[(3,.int .i64 q.1)]) (fun _=>[]) (fun q=>s.length - q.1) ⟨0,by omega,rfl⟩ (Nat.zero_le _) ?_ ?_
 ·simp -implicitDefEqProofs (maxSteps:=600000) (disch:=(first | omega | decide)) only [go_sem,↓reduceIte,seval]
 ·rintro ⟨k,hk,hd⟩
  simp only at hk hd ⊢
  by_cases hlt:k < s.length
  ·have hlt':(k:Int) < (s.length:Int):=by omega
   have e1:=known_get hlt
   have hm:=sumK_mem (List.getElem_mem hlt)
   have hp:prevK s (k + 1) = s[k].n:=by
    unfold prevK; rw [if_neg (by omega),Nat.add_sub_cancel,getElem!_pos s k hlt]
   rw [List.drop_eq_getElem_cons hlt] at hd
   generalize hx:s[k] = x at *
   obtain ⟨n,rs⟩:=x
   simp only [goK,oneK] at hd hm hp
   have next:rightK s = goK n (s.drop (k + 1)) → ∃ j:{k:Nat // k ≤ s.length ∧ rightK s = goK (prevK s k) (s.drop k)},(k:Int) + 1 = (j.1:Int) ∧ s.length - j.1 < s.length - k:=fun h=>⟨⟨k + 1,hlt,by rw [hp]; exact h⟩,by simp,by show s.length - (k + 1) < s.length - k; omega⟩
   by_cases h1:n < 1
   ·have hh:rightK s = false:=by
     rw [hd,show repOK n = false by rw [← Bool.not_eq_true,repOK_iff]; omega]; simp
    simp -implicitDefEqProofs (maxSteps:=600000) (disch:=(first | omega | decide)) only [go_sem,↓reduceIte,seval,hlt',e1,h1,hh,List.length_map]
   ·by_cases h2:16 < n
    ·have hh:rightK s = false:=by
          rw [hd,show repOK n = false by rw [← Bool.not_eq_true,repOK_iff]; omega]; simp
     simp -implicitDefEqProofs (maxSteps:=600000) (disch:=(first | omega | decide)) only [go_sem,↓reduceIte,seval,hlt',e1,h1,h2,hh,List.length_map]
    ·have hr:repOK n = true:=repOK_iff.2 (by omega)
     have rest:prevK s k < n → ∀ (c:Bool),c = (!rs.isEmpty && rightL rs) → rightK s = (c && goK n (s.drop (k + 1))):=fun hp c hc=>by
          rw [hd,hr,decide_eq_true hp,hc]; simp [Bool.and_assoc]
     by_cases hk0:k = 0
     ·have hz:¬ (0:Int) < (k:Int):=by omega
      have rest':=rest (by unfold prevK; rw [if_pos hk0]; omega)
      cases h3:((rs.length:Int) == 0) with
      | true=>
       have:rs = []:=List.length_eq_zero_iff.1 (by have:(rs.length:Int) = 0:=by simpa using h3
                                                   omega)
       have hh:rightK s = false:=by rw [rest' false (by rw [this]; rfl)]; rfl
       simp -implicitDefEqProofs (maxSteps:=600000) (disch:=(first | omega | decide)) only [go_sem,↓reduceIte,seval,hlt',e1,h1,h2,hz,h3,hh,List.length_map]
      | false=>
       have hne:rs.isEmpty = false:=by
        cases rs with
        | nil=>simp at h3
        | cons _ _=>rfl
       cases h4:rightL rs with
       | false=>
        have hh:rightK s = false:=by rw [rest' false (by rw [hne,h4]; rfl)]; rfl
        simp -implicitDefEqProofs (maxSteps:=600000) (disch:=(first | omega | decide)) only [go_sem,↓reduceIte,seval,hlt',e1,h1,h2,hz,h3,h4,hh,List.length_map]
       | true=>
        have hh:=rest' true (by rw [hne,h4]; rfl)
        simp -implicitDefEqProofs (maxSteps:=600000) (disch:=(first | omega | decide)) only [go_sem,↓reduceIte,seval,hlt',e1,h1,h2,hz,h3,h4,wrap_i64,List.length_map]
        exact next hh
     ·have hz:(0:Int) < (k:Int):=by omega
      have hlt2:k - 1 < s.length:=by omega
      have e2:=known_get hlt2
      have hpk:prevK s k = s[k - 1].n:=by unfold prevK; rw [if_neg hk0,getElem!_pos s (k - 1) hlt2]
      generalize hy:s[k - 1] = y at *
      obtain ⟨n',rs'⟩:=y
      simp only at hpk
      have c1:((k:Int) - 1).toNat = k - 1:=by omega
      have c2:(0:Int) ≤ (k:Int) - 1:=by omega
      by_cases h5:n ≤ n'
      ·have hh:rightK s = false:=by rw [hd,hpk,decide_eq_false (show ¬ n' < n by omega)]; simp
       simp -implicitDefEqProofs (maxSteps:=600000) (disch:=(first | omega | decide)) only [go_sem,↓reduceIte,seval,hlt',e1,h1,h2,hz,e2,c1,c2,h5,hh,wrap_i64,List.length_map]
      ·have rest':=rest (by rw [hpk]; omega)
       cases h3:((rs.length:Int) == 0) with
       | true=>
        have:rs = []:=List.length_eq_zero_iff.1 (by have:(rs.length:Int) = 0:=by simpa using h3
                                                    omega)
        have hh:rightK s = false:=by rw [rest' false (by rw [this]; rfl)]; rfl
        simp -implicitDefEqProofs (maxSteps:=600000) (disch:=(first | omega | decide)) only [go_sem,↓reduceIte,seval,hlt',e1,h1,h2,hz,e2,c1,c2,h5,h3,hh,wrap_i64,List.length_map]
       | false=>
        have hne:rs.isEmpty = false:=by
         cases rs with
         | nil=>simp at h3
         | cons _ _=>rfl
        cases h4:rightL rs with
        | false=>
         have hh:rightK s = false:=by rw [rest' false (by rw [hne,h4]; rfl)]; rfl
         simp -implicitDefEqProofs (maxSteps:=600000) (disch:=(first | omega | decide)) only [go_sem,↓reduceIte,seval,hlt',e1,h1,h2,hz,e2,c1,c2,h5,h3,h4,hh,wrap_i64,List.length_map]
        | true=>
         have hh:=rest' true (by rw [hne,h4]; rfl)
         simp -implicitDefEqProofs (maxSteps:=600000) (disch:=(first | omega | decide)) only [go_sem,↓reduceIte,seval,hlt',e1,h1,h2,hz,e2,c1,c2,h5,h3,h4,wrap_i64,List.length_map]
         exact next hh
  ·have hlt':¬ (k:Int) < (s.length:Int):=by omega
   have hh:rightK s = true:=by rw [hd,List.drop_of_length_le (by omega)]; rfl
   simp -implicitDefEqProofs (maxSteps:=600000) (disch:=(first | omega | decide)) only [go_sem,↓reduceIte,seval,hlt',hh,List.length_map]
theorem right_ver {n c:Int}:rightV ⟨n,c⟩ = (repOK n && (decide (1 ≤ c) && decide (c ≤ 1099511627776))):=by simp [rightV,repOK,Bool.and_assoc]
theorem has_ver {s:List Known} {n c:Int}:(rightV ⟨n,c⟩ && hasL13 (runsK s n) c) = hasK s n c:=by
 rw [right_ver]; unfold hasK
 cases h:hasL13 (runsK s n) c with
 | false=>simp
 | true=>have:=has_range h; simp [this]
theorem ok_vset_Has:codeOK Tryz.prog K14c Tryz.f145.ntmps (Tryz.f145.body.getD .skip) = true:=by kernel_rfl
theorem c_vset_Has (s:List Known) (n c:Int) (hs:smallK s):CallA Tryz.prog 145 [.slc (s.map Known.enc),.agg [.int .i64 n,.int .i64 c]] (· = .bool (hasK s n c)):=by
 refine callA_of_body K14c_ok mixed Tryz.func145 rfl (Nat.le_of_ble_eq_true rfl) ok_vset_Has ?_
 unfold Tryz.f145
 obtain ⟨hs1,hs2⟩:=hs
 have hv:=has_ver (s:=s) (n:=n) (c:=c)
 cases h1:rightV ⟨n,c⟩ with
 | false=>
  rw [h1,Bool.false_and] at hv
  simp -implicitDefEqProofs (maxSteps:=600000) (disch:=(first | omega | decide)) only [go_sem,↓reduceIte,seval,h1,← hv,List.length_map]
 | true=>
  rw [h1,Bool.true_and] at hv
  simp -implicitDefEqProofs (maxSteps:=600000) (disch:=(first | omega | decide)) only [go_sem,↓reduceIte,seval,h1,← hv,List.length_map]
  refine wpA_loop [0,3,10,11] (ι:={k:Nat // k ≤ s.length ∧ hasL13 (runsK s n) c = hasL13 (runsK (s.drop k) n) c}) (fun p=>[(12,.int .i64 p.1)]) (fun _=>[]) (fun p=>s.length - p.1) ⟨0,by omega,rfl⟩ (Nat.zero_le _) ?_ ?_
  ·simp -implicitDefEqProofs (maxSteps:=600000) (disch:=(first | omega | decide)) only [go_sem,↓reduceIte,seval]
  ·rintro ⟨k,hk,hd⟩
   simp only at hk hd ⊢
   by_cases hlt:k < s.length
   ·have hlt':(k:Int) < (s.length:Int):=by omega
    have e1:=known_get hlt
    have hm:=sumK_mem (List.getElem_mem hlt)
    rw [List.drop_eq_getElem_cons hlt] at hd
    generalize hx:s[k] = x at *
    obtain ⟨m,rs⟩:=x
    simp only [runsK] at hd hm
    have next:hasL13 (runsK s n) c = hasL13 (runsK (s.drop (k + 1)) n) c → ∃ j:{k:Nat // k ≤ s.length ∧ hasL13 (runsK s n) c = hasL13 (runsK (s.drop k) n) c},(k:Int) + 1 = (j.1:Int) ∧ s.length - j.1 < s.length - k:=fun h=>⟨⟨k + 1,hlt,h⟩,by simp,by show s.length - (k + 1) < s.length - k; omega⟩
    cases h2:m == n with
    | false=>
     have:m ≠ n:=by simpa using h2
     rw [if_neg this] at hd
     simp -implicitDefEqProofs (maxSteps:=600000) (disch:=(first | omega | decide)) only [go_sem,↓reduceIte,seval,hlt',e1,h2,wrap_i64,List.length_map]
     exact next hd
    | true=>
     have:m = n:=by simpa using h2
     rw [if_pos this,has_append] at hd
     cases h3:hasL13 rs c with
     | true=>
      have hh:hasL13 (runsK s n) c = true:=by rw [hd,h3]; rfl
      simp -implicitDefEqProofs (maxSteps:=600000) (disch:=(first | omega | decide)) only [go_sem,↓reduceIte,seval,hlt',e1,h2,h3,hh,List.length_map]
     | false=>
      rw [h3,Bool.false_or] at hd
      simp -implicitDefEqProofs (maxSteps:=600000) (disch:=(first | omega | decide)) only [go_sem,↓reduceIte,seval,hlt',e1,h2,h3,wrap_i64,List.length_map]
      exact next hd
   ·have hlt':¬ (k:Int) < (s.length:Int):=by omega
    have hh:hasL13 (runsK s n) c = false:=by rw [hd,List.drop_of_length_le (by omega)]; rfl
    simp -implicitDefEqProofs (maxSteps:=600000) (disch:=(first | omega | decide)) only [go_sem,↓reduceIte,seval,hlt',hh,List.length_map]
theorem stRuns (l:List Run):((l.map Run.enc).isEmpty || strideOf (l.map Run.enc) == 2) = true:=by cases l <;> rfl
theorem runsK_snoc {s:List Known} {k:Nat} (h:k < s.length) (n:Int):runsK (s.take (k + 1)) n = runsK (s.take k) n ++ (if s[k].n = n then s[k].rs else []):=by
 rw [← List.take_append_getElem h,runsK_append]
 simp only [runsK,List.append_nil]
theorem ok_ref14_Runs:codeOK Tryz.prog K14c Tryz.f175.ntmps (Tryz.f175.body.getD .skip) = true:=by kernel_rfl
theorem c_ref14_Runs (s:List Known) (n:Int) (hs:smallK s):CallA Tryz.prog 175 [.slc (s.map Known.enc),.int .i64 n] (· = .slc ((runsK s n).map Run.enc)):=by
 refine callA_of_body K14c_ok mixed Tryz.func175 rfl (Nat.le_of_ble_eq_true rfl) ok_ref14_Runs ?_
 unfold Tryz.f175
 obtain ⟨hs1,hs2⟩:=hs
 simp -implicitDefEqProofs (maxSteps:=600000) (disch:=(first | omega | decide)) only [go_sem,↓reduceIte,seval,List.length_map]
 refine wpA_loop_nil 5 2 rfl ?_
 refine wpA_loop [0,1] (ι:={k:Nat // k ≤ s.length}) (fun p=>[(6,.int .i64 p.1),(5,.row 0 0 2 (runsK (s.take p.1) n).length false)]) (fun p=>[(0,.row 2 ((runsK (s.take p.1) n).map Run.enc))]) (fun p=>s.length - p.1) ⟨0,by omega⟩ (Nat.zero_le _) ?_ ?_
 ·simp -implicitDefEqProofs (maxSteps:=600000) (disch:=(first | omega | decide)) only [go_sem,↓reduceIte,seval]
  simp [runsK]
 ·rintro ⟨k,hk⟩
  simp only
  have hl1:=runsK_len (s.take k) n
  by_cases hlt:k < s.length
  ·have hlt':(k:Int) < (s.length:Int):=by omega
   have e1:=known_get hlt
   have hm:=sumK_take hlt
   have hsn:=runsK_snoc hlt n
   generalize hx:s[k] = x at *
   obtain ⟨m,rs⟩:=x
   simp only at hm hsn
   have st:=stRuns rs
   cases h2:m == n with
   | false=>
    have:m ≠ n:=by simpa using h2
    rw [if_neg this,List.append_nil] at hsn
    simp -implicitDefEqProofs (maxSteps:=600000) (disch:=(first | omega | decide)) only [go_sem,↓reduceIte,seval,hlt',e1,h2,wrap_i64,List.length_map]
    exact ⟨⟨k + 1,hlt⟩,⟨⟨by simp,by rw [hsn]⟩,by rw [hsn]⟩,by show s.length - (k + 1) < s.length - k; omega⟩
   | true=>
    have:m = n:=by simpa using h2
    rw [if_pos this] at hsn
    simp -implicitDefEqProofs (maxSteps:=600000) (disch:=(first | omega | decide)) only [go_sem,↓reduceIte,seval,hlt',e1,h2,st,wrap_i64,List.length_map]
    exact ⟨⟨Nat.le_refl _,by omega⟩,⟨k + 1,hlt⟩,⟨⟨by simp,by rw [hsn,List.length_append]⟩,by rw [hsn,List.map_append,List.take_of_length_le (by simp)]⟩,by show s.length - (k + 1) < s.length - k; omega⟩
  ·have hlt':¬ (k:Int) < (s.length:Int):=by omega
   rw [List.take_of_length_le (by omega)] at *
   simp -implicitDefEqProofs (maxSteps:=600000) (disch:=(first | omega | decide)) only [go_sem,↓reduceIte,seval,hlt',List.length_map]
   exact ⟨Nat.le_refl _,by rw [List.take_of_length_le (by simp)]⟩
noncomputable def K14d:Tab:=K14c.add 135 (entry (fun (s:List Known)=>[.slc (s.map Known.enc)]) (fun s=>smallK s) (fun s=>.bool (rightK s)))
theorem K14d_ok:TabOK Tryz.prog K14d:=K14c_ok.add (callable_of Tryz.func135 (by kernel_rfl) (by kernel_rfl)) (entry_ok fun s h=>c_vset_Right s h)
@[go_sem] theorem K14d_old {g:FuncId} {xs:List A} (h:g ≠ 135):K14d.f g xs = K14c.f g xs:=Tab.add_ne h
theorem K14d_vset_Right (s:List Known) (h:smallK s):K14d.f 135 [.slc (s.map Known.enc)] = some (.bool (rightK s)):=
 (Tab.add_eq:K14d.f 135 [.slc (s.map Known.enc)] = (entry (fun (s:List Known)=>[.slc (s.map Known.enc)]) (fun s=>smallK s) (fun s=>.bool (rightK s))) [.slc (s.map Known.enc)]).trans (entry_eq (fun i j h=>by first | (cases i; cases j; rfl; done) | simpa [Prod.ext_iff,and_assoc] using h | (simp at h; omega) | (simp at h; exact Prod.ext h.1 (Prod.ext h.2.1 (by omega)))) s h)
noncomputable def K14e:Tab:=K14d.add 128 (entry (fun (s:List Known)=>[.slc (s.map Known.enc)]) (fun s=>smallK s) (fun s=>.bool (rightK s)))
theorem K14e_ok:TabOK Tryz.prog K14e:=K14d_ok.add (callable_of Tryz.func128 (by kernel_rfl) (by kernel_rfl)) (entry_ok fun s h=>c_ref14_Right s h)
@[go_sem] theorem K14e_old {g:FuncId} {xs:List A} (h:g ≠ 128):K14e.f g xs = K14d.f g xs:=Tab.add_ne h
theorem K14e_ref14_Right (s:List Known) (h:smallK s):K14e.f 128 [.slc (s.map Known.enc)] = some (.bool (rightK s)):=
 (Tab.add_eq:K14e.f 128 [.slc (s.map Known.enc)] = (entry (fun (s:List Known)=>[.slc (s.map Known.enc)]) (fun s=>smallK s) (fun s=>.bool (rightK s))) [.slc (s.map Known.enc)]).trans (entry_eq (fun i j h=>by first | (cases i; cases j; rfl; done) | simpa [Prod.ext_iff,and_assoc] using h | (simp at h; omega) | (simp at h; exact Prod.ext h.1 (Prod.ext h.2.1 (by omega)))) s h)
noncomputable def K14f:Tab:=K14e.add 145 (entry (fun (v:List Known × Int × Int)=>[.slc (v.1.map Known.enc),.agg [.int .i64 v.2.1,.int .i64 v.2.2]]) (fun v=>smallK v.1) (fun v=>.bool (hasK v.1 v.2.1 v.2.2)))
theorem K14f_ok:TabOK Tryz.prog K14f:=K14e_ok.add (callable_of Tryz.func145 (by kernel_rfl) (by kernel_rfl)) (entry_ok fun v h=>c_vset_Has v.1 v.2.1 v.2.2 h)
@[go_sem] theorem K14f_old {g:FuncId} {xs:List A} (h:g ≠ 145):K14f.f g xs = K14e.f g xs:=Tab.add_ne h
theorem K14f_vset_Has (v:List Known × Int × Int) (h:smallK v.1):K14f.f 145 [.slc (v.1.map Known.enc),.agg [.int .i64 v.2.1,.int .i64 v.2.2]] = some (.bool (hasK v.1 v.2.1 v.2.2)):=
 (Tab.add_eq:K14f.f 145 [.slc (v.1.map Known.enc),.agg [.int .i64 v.2.1,.int .i64 v.2.2]] = (entry (fun (v:List Known × Int × Int)=>[.slc (v.1.map Known.enc),.agg [.int .i64 v.2.1,.int .i64 v.2.2]]) (fun v=>smallK v.1) (fun v=>.bool (hasK v.1 v.2.1 v.2.2))) [.slc (v.1.map Known.enc),.agg [.int .i64 v.2.1,.int .i64 v.2.2]]).trans (entry_eq (fun i j h=>by first | (cases i; cases j; rfl; done) | simpa [Prod.ext_iff,and_assoc] using h | (simp at h; omega) | (simp at h; exact Prod.ext h.1 (Prod.ext h.2.1 (by omega)))) v h)
noncomputable def K14g:Tab:=K14f.add 175 (entry (fun (v:List Known × Int)=>[.slc (v.1.map Known.enc),.int .i64 v.2]) (fun v=>smallK v.1) (fun v=>.slc ((runsK v.1 v.2).map Run.enc)))
theorem K14g_ok:TabOK Tryz.prog K14g:=K14f_ok.add (callable_of Tryz.func175 (by kernel_rfl) (by kernel_rfl)) (entry_ok fun v h=>c_ref14_Runs v.1 v.2 h)
@[go_sem] theorem K14g_old {g:FuncId} {xs:List A} (h:g ≠ 175):K14g.f g xs = K14f.f g xs:=Tab.add_ne h
@[go_sem] theorem K14g_eff {g:FuncId}:K14g.eff g = false:=rfl
@[go_sem] theorem K14g_ords {n:Nat}:K14g.ords n = []:=rfl
theorem K14g_ref14_Runs (v:List Known × Int) (h:smallK v.1):K14g.f 175 [.slc (v.1.map Known.enc),.int .i64 v.2] = some (.slc ((runsK v.1 v.2).map Run.enc)):=
 (Tab.add_eq:K14g.f 175 [.slc (v.1.map Known.enc),.int .i64 v.2] = (entry (fun (v:List Known × Int)=>[.slc (v.1.map Known.enc),.int .i64 v.2]) (fun v=>smallK v.1) (fun v=>.slc ((runsK v.1 v.2).map Run.enc))) [.slc (v.1.map Known.enc),.int .i64 v.2]).trans (entry_eq (fun i j h=>by first | (cases i; cases j; rfl; done) | simpa [Prod.ext_iff,and_assoc] using h | (simp at h; omega) | (simp at h; exact Prod.ext h.1 (Prod.ext h.2.1 (by omega)))) v h)
@[go_sem] theorem k_vset_Right {s:List Known} (h:smallK s):K14d.f 135 [.slc (s.map Known.enc)] = some (.bool (rightK s)):=K14d_vset_Right s h
@[go_sem] theorem k_ref14_Right {s:List Known} (h:smallK s):K14e.f 128 [.slc (s.map Known.enc)] = some (.bool (rightK s)):=K14e_ref14_Right s h
@[go_sem] theorem k_vset_Has {s:List Known} {n c:Int} (h:smallK s):K14f.f 145 [.slc (s.map Known.enc),.agg [.int .i64 n,.int .i64 c]] = some (.bool (hasK s n c)):=K14f_vset_Has (s,n,c) h
@[go_sem] theorem k_ref14_Runs {s:List Known} {n:Int} (h:smallK s):K14g.f 175 [.slc (s.map Known.enc),.int .i64 n] = some (.slc ((runsK s n).map Run.enc)):=K14g_ref14_Runs (s,n) h
theorem ok_ref14_Has:codeOK Tryz.prog K14g Tryz.f130.ntmps (Tryz.f130.body.getD .skip) = true:=by kernel_rfl
theorem c_ref14_Has (s:List Known) (n c:Int) (hs:smallK s):CallA Tryz.prog 130 [.slc (s.map Known.enc),.agg [.int .i64 n,.int .i64 c]] (· = .bool (hasK s n c)):=by
 refine callA_of_body K14g_ok mixed Tryz.func130 rfl (Nat.le_of_ble_eq_true rfl) ok_ref14_Has ?_
 unfold Tryz.f130
 have hl:=runsK_len s n
 have hs':=hs.2
 have hv:=has_ver (s:=s) (n:=n) (c:=c)
 have hr:=k_ref14_Runs (n:=n) hs
 cases h1:rightV ⟨n,c⟩ with
 | false=>
  rw [h1,Bool.false_and] at hv
  simp -implicitDefEqProofs (maxSteps:=600000) (disch:=(first | omega | decide)) only [go_sem,↓reduceIte,seval,h1,hr,← hv,List.length_map]
 | true=>
  rw [h1,Bool.true_and] at hv
  simp -implicitDefEqProofs (maxSteps:=600000) (disch:=(first | omega | decide)) only [go_sem,↓reduceIte,seval,h1,hr,← hv,List.length_map]
noncomputable def K14h:Tab:=K14g.add 130 (entry (fun (v:List Known × Int × Int)=>[.slc (v.1.map Known.enc),.agg [.int .i64 v.2.1,.int .i64 v.2.2]]) (fun v=>smallK v.1) (fun v=>.bool (hasK v.1 v.2.1 v.2.2)))
theorem K14h_ok:TabOK Tryz.prog K14h:=K14g_ok.add (callable_of Tryz.func130 (by kernel_rfl) (by kernel_rfl)) (entry_ok fun v h=>c_ref14_Has v.1 v.2.1 v.2.2 h)
@[go_sem] theorem K14h_old {g:FuncId} {xs:List A} (h:g ≠ 130):K14h.f g xs = K14g.f g xs:=Tab.add_ne h
@[go_sem] theorem K14h_ords {n:Nat}:K14h.ords n = []:=rfl
theorem K14h_ref14_Has (v:List Known × Int × Int) (h:smallK v.1):K14h.f 130 [.slc (v.1.map Known.enc),.agg [.int .i64 v.2.1,.int .i64 v.2.2]] = some (.bool (hasK v.1 v.2.1 v.2.2)):=
 (Tab.add_eq:K14h.f 130 [.slc (v.1.map Known.enc),.agg [.int .i64 v.2.1,.int .i64 v.2.2]] = (entry (fun (v:List Known × Int × Int)=>[.slc (v.1.map Known.enc),.agg [.int .i64 v.2.1,.int .i64 v.2.2]]) (fun v=>smallK v.1) (fun v=>.bool (hasK v.1 v.2.1 v.2.2))) [.slc (v.1.map Known.enc),.agg [.int .i64 v.2.1,.int .i64 v.2.2]]).trans (entry_eq (fun i j h=>by first | (cases i; cases j; rfl; done) | simpa [Prod.ext_iff,and_assoc] using h | (simp at h; omega) | (simp at h; exact Prod.ext h.1 (Prod.ext h.2.1 (by omega)))) v h)
@[go_sem] theorem k_ref14_Has {s:List Known} {n c:Int} (h:smallK s):K14h.f 130 [.slc (s.map Known.enc),.agg [.int .i64 n,.int .i64 c]] = some (.bool (hasK s n c)):=K14h_ref14_Has (s,n,c) h
end Go.Proofs.YtjfdlpagcgpaoaaGreat
namespace Go.Proofs.YtjfdlpagcgpaoaaGreat
open Go.Abs
set_option linter.unusedSimpArgs false
set_option linter.unusedVariables false
set_option maxRecDepth 20000
set_option maxHeartbeats 8000000
def sameK (a b:List Known):Bool:=decide (a = b)
def sameO (x y:Known):Bool:=x.n == y.n && sameL x.rs y.rs
theorem sameO_iff {x y:Known}:sameO x y = true ↔ x = y:=by
 cases x; cases y; simp [sameO,sameL]
theorem ok_slices_Equal_winnower_api_Run_winnower_api_Run:codeOK Tryz.prog K14h Tryz.f114.ntmps (Tryz.f114.body.getD .skip) = true:=by kernel_rfl
theorem c_Equal_Run (a b:List Run) (hl:a.length ≤ 4398046511104) (hb:b.length ≤ 4398046511104):CallA Tryz.prog 114 [.slc (a.map Run.enc),.slc (b.map Run.enc)] (· = .bool (sameL a b)):=by
 refine callA_of_body K14h_ok mixed Tryz.func114 rfl (Nat.le_of_ble_eq_true rfl) ok_slices_Equal_winnower_api_Run_winnower_api_Run ?_
 unfold Tryz.f114
 cases h0:((a.length:Int) == (b.length:Int)) with
 | false=>
  have hne:a.length ≠ b.length:=by
   have:(a.length:Int) ≠ (b.length:Int):=by simpa using h0
   omega
  have hh:sameL a b = false:=by unfold sameL; simp; intro e; exact hne (by rw [e])
  simp -implicitDefEqProofs (maxSteps:=600000) (disch:=(first | omega | decide)) only [go_sem,↓reduceIte,seval,h0,hh,List.length_map]
 | true=>
  have he:a.length = b.length:=by
   have:(a.length:Int) = (b.length:Int):=by simpa using h0
   omega
  simp -implicitDefEqProofs (maxSteps:=600000) (disch:=(first | omega | decide)) only [go_sem,↓reduceIte,seval,h0,List.length_map]
  refine wpA_loop [0,1,12] (ι:={k:Nat // k ≤ a.length ∧ a.take k = b.take k}) (fun p=>[(13,.int .i64 p.1)]) (fun _=>[]) (fun p=>a.length - p.1) ⟨0,by omega,rfl⟩ (Nat.zero_le _) ?_ ?_
  ·simp -implicitDefEqProofs (maxSteps:=600000) (disch:=(first | omega | decide)) only [go_sem,↓reduceIte,seval]
  ·rintro ⟨k,hk,hd⟩
   simp only
   by_cases hlt:k < a.length
   ·have hlt':(k:Int) < (a.length:Int):=by omega
    have hlt3:(k:Int) < (b.length:Int):=by omega
    have hltb:k < b.length:=by omega
    have e1:=run_get hlt
    have e2:=run_get hltb
    have t1:=(List.take_append_getElem hlt).symm
    have t2:=(List.take_append_getElem hltb).symm
    have hno:a[k] ≠ b[k] → sameL a b = false:=fun h=>by
     unfold sameL; simp; intro e; subst e; exact h rfl
    generalize hx:a[k] = x at *
    generalize hy:b[k] = y at *
    obtain ⟨f,t⟩:=x
    obtain ⟨f',t'⟩:=y
    cases h1:f == f' with
    | false=>
     have hh:=hno (by have:f ≠ f':=by simpa using h1
                      simp [this])
     simp -implicitDefEqProofs (maxSteps:=600000) (disch:=(first | omega | decide)) only [go_sem,↓reduceIte,seval,hlt',hlt3,e1,e2,h1,hh,List.length_map]
    | true=>
     cases h2:t == t' with
     | false=>
      have hh:=hno (by have:t ≠ t':=by simpa using h2
                       simp [this])
      simp -implicitDefEqProofs (maxSteps:=600000) (disch:=(first | omega | decide)) only [go_sem,↓reduceIte,seval,hlt',hlt3,e1,e2,h1,h2,hh,List.length_map]
     | true=>
      obtain rfl:f = f':=by simpa using h1
      obtain rfl:t = t':=by simpa using h2
      simp -implicitDefEqProofs (maxSteps:=600000) (disch:=(first | omega | decide)) only [go_sem,↓reduceIte,seval,hlt',hlt3,e1,e2,h1,h2,wrap_i64,List.length_map]
      exact ⟨⟨k + 1,hlt,by rw [t1,t2,hd]⟩,by simp,by show a.length - (k + 1) < a.length - k; omega⟩
   ·have hlt':¬ (k:Int) < (a.length:Int):=by omega
    have hh:sameL a b = true:=by
     rw [List.take_of_length_le (by omega),List.take_of_length_le (by omega)] at hd
     simp [sameL,hd]
    simp -implicitDefEqProofs (maxSteps:=600000) (disch:=(first | omega | decide)) only [go_sem,↓reduceIte,seval,hlt',hh,List.length_map]
noncomputable def K14i:Tab:=K14h.add 114 (entry (fun (v:List Run × List Run)=>[.slc (v.1.map Run.enc),.slc (v.2.map Run.enc)]) (fun v=>v.1.length ≤ 4398046511104 ∧ v.2.length ≤ 4398046511104) (fun v=>.bool (sameL v.1 v.2)))
theorem K14i_ok:TabOK Tryz.prog K14i:=K14h_ok.add (callable_of Tryz.func114 (by kernel_rfl) (by kernel_rfl)) (entry_ok fun v h=>c_Equal_Run v.1 v.2 h.1 h.2)
@[go_sem] theorem K14i_old {g:FuncId} {xs:List A} (h:g ≠ 114):K14i.f g xs = K14h.f g xs:=Tab.add_ne h
@[go_sem] theorem K14i_eff {g:FuncId}:K14i.eff g = false:=rfl
@[go_sem] theorem K14i_ords {n:Nat}:K14i.ords n = []:=rfl
theorem K14i_slices_Equal_winnower_api_Run_winnower_api_Run (v:List Run × List Run) (h:v.1.length ≤ 4398046511104 ∧ v.2.length ≤ 4398046511104):K14i.f 114 [.slc (v.1.map Run.enc),.slc (v.2.map Run.enc)] = some (.bool (sameL v.1 v.2)):=
 (Tab.add_eq:K14i.f 114 [.slc (v.1.map Run.enc),.slc (v.2.map Run.enc)] = (entry (fun (v:List Run × List Run)=>[.slc (v.1.map Run.enc),.slc (v.2.map Run.enc)]) (fun v=>v.1.length ≤ 4398046511104 ∧ v.2.length ≤ 4398046511104) (fun v=>.bool (sameL v.1 v.2))) [.slc (v.1.map Run.enc),.slc (v.2.map Run.enc)]).trans (entry_eq (fun i j h=>by first | (cases i; cases j; rfl; done) | simpa [Prod.ext_iff,and_assoc] using h | (simp at h; omega) | (simp at h; exact Prod.ext h.1 (Prod.ext h.2.1 (by omega)))) v h)
@[go_sem] theorem k_Equal_Run {a b:List Run} (ha:a.length ≤ 4398046511104) (hb:b.length ≤ 4398046511104):K14i.f 114 [.slc (a.map Run.enc),.slc (b.map Run.enc)] = some (.bool (sameL a b)):=K14i_slices_Equal_winnower_api_Run_winnower_api_Run (a,b) ⟨ha,hb⟩
theorem ok_vset_Same_1:codeOK Tryz.prog K14i Tryz.f181.ntmps (Tryz.f181.body.getD .skip) = true:=by kernel_rfl
theorem c_vset_Same1 (x y:Known) (hx:x.rs.length ≤ 4398046511104) (hy:y.rs.length ≤ 4398046511104):CallA Tryz.prog 181 [.agg [.int .i64 x.n,.slc (x.rs.map Run.enc)],.agg [.int .i64 y.n,.slc (y.rs.map Run.enc)]] (· = .bool (sameO x y)):=by
 refine callA_of_body K14i_ok mixed Tryz.func181 rfl (Nat.le_of_ble_eq_true rfl) ok_vset_Same_1 ?_
 unfold Tryz.f181
 unfold sameO
 cases h1:x.n == y.n with
 | false=>simp -implicitDefEqProofs (maxSteps:=600000) (disch:=(first | omega | decide)) only [go_sem,↓reduceIte,seval,h1,List.length_map]
 | true=>simp -implicitDefEqProofs (maxSteps:=600000) (disch:=(first | omega | decide)) only [go_sem,↓reduceIte,seval,h1,hx,hy,List.length_map]
noncomputable def K14j:Tab:=K14i.add 181 (entry (fun (v:(Int × List Run) × (Int × List Run))=>[.agg [.int .i64 v.1.1,.slc (v.1.2.map Run.enc)],.agg [.int .i64 v.2.1,.slc (v.2.2.map Run.enc)]]) (fun v=>v.1.2.length ≤ 4398046511104 ∧ v.2.2.length ≤ 4398046511104) (fun v=>.bool (sameO ⟨v.1.1,v.1.2⟩ ⟨v.2.1,v.2.2⟩)))
theorem K14j_ok:TabOK Tryz.prog K14j:=K14i_ok.add (callable_of Tryz.func181 (by kernel_rfl) (by kernel_rfl)) (entry_ok fun v h=>c_vset_Same1 ⟨v.1.1,v.1.2⟩ ⟨v.2.1,v.2.2⟩ h.1 h.2)
@[go_sem] theorem K14j_old {g:FuncId} {xs:List A} (h:g ≠ 181):K14j.f g xs = K14i.f g xs:=Tab.add_ne h
@[go_sem] theorem K14j_eff {g:FuncId}:K14j.eff g = false:=rfl
@[go_sem] theorem K14j_effT:K14j.effT = false:=rfl
@[go_sem] theorem K14j_ords {n:Nat}:K14j.ords n = []:=rfl
theorem K14j_vset_Same_1 (v:(Int × List Run) × (Int × List Run)) (h:v.1.2.length ≤ 4398046511104 ∧ v.2.2.length ≤ 4398046511104):K14j.f 181 [.agg [.int .i64 v.1.1,.slc (v.1.2.map Run.enc)],.agg [.int .i64 v.2.1,.slc (v.2.2.map Run.enc)]] = some (.bool (sameO ⟨v.1.1,v.1.2⟩ ⟨v.2.1,v.2.2⟩)):=
 (Tab.add_eq:K14j.f 181 [.agg [.int .i64 v.1.1,.slc (v.1.2.map Run.enc)],.agg [.int .i64 v.2.1,.slc (v.2.2.map Run.enc)]] = (entry (fun (v:(Int × List Run) × (Int × List Run))=>[.agg [.int .i64 v.1.1,.slc (v.1.2.map Run.enc)],.agg [.int .i64 v.2.1,.slc (v.2.2.map Run.enc)]]) (fun v=>v.1.2.length ≤ 4398046511104 ∧ v.2.2.length ≤ 4398046511104) (fun v=>.bool (sameO ⟨v.1.1,v.1.2⟩ ⟨v.2.1,v.2.2⟩))) [.agg [.int .i64 v.1.1,.slc (v.1.2.map Run.enc)],.agg [.int .i64 v.2.1,.slc (v.2.2.map Run.enc)]]).trans (entry_eq (fun i j h=>by first | (cases i; cases j; rfl; done) | simpa [Prod.ext_iff,and_assoc] using h | (simp at h; omega) | (simp at h; exact Prod.ext h.1 (Prod.ext h.2.1 (by omega)))) v h)
@[go_sem] theorem k_vset_Same1 {n m:Int} {rs qs:List Run} (ha:rs.length ≤ 4398046511104) (hb:qs.length ≤ 4398046511104):K14j.f 181 [.agg [.int .i64 n,.slc (rs.map Run.enc)],.agg [.int .i64 m,.slc (qs.map Run.enc)]] = some (.bool (sameO ⟨n,rs⟩ ⟨m,qs⟩)):=K14j_vset_Same_1 ((n,rs),(m,qs)) ⟨ha,hb⟩
theorem ok_slices_EqualFunc_winnower_api_Known_winnower_api_Known_winnower_api_Known_winnower_api_Known:codeOK Tryz.prog K14j Tryz.f112.ntmps (Tryz.f112.body.getD .skip) = true:=by kernel_rfl
theorem c_EqualFunc (a b:List Known) (ha:smallK a) (hb:smallK b):CallA Tryz.prog 112 [.slc (a.map Known.enc),.slc (b.map Known.enc),.fn 181 []] (· = .bool (sameK a b)):=by
 refine callA_of_body K14j_ok mixed Tryz.func112 rfl (Nat.le_of_ble_eq_true rfl) ok_slices_EqualFunc_winnower_api_Known_winnower_api_Known_winnower_api_Known_winnower_api_Known ?_
 unfold Tryz.f112
 obtain ⟨ha1,ha2⟩:=ha
 obtain ⟨hb1,hb2⟩:=hb
 cases h0:((a.length:Int) == (b.length:Int)) with
 | false=>
  have hne:a.length ≠ b.length:=by
   have:(a.length:Int) ≠ (b.length:Int):=by simpa using h0
   omega
  have hh:sameK a b = false:=by unfold sameK; simp; intro e; exact hne (by rw [e])
  simp -implicitDefEqProofs (maxSteps:=600000) (disch:=(first | omega | decide)) only [go_sem,↓reduceIte,seval,h0,hh,List.length_map]
 | true=>
  have he:a.length = b.length:=by
   have:(a.length:Int) = (b.length:Int):=by simpa using h0
   omega
  simp -implicitDefEqProofs (maxSteps:=600000) (disch:=(first | omega | decide)) only [go_sem,↓reduceIte,seval,h0,List.length_map]
  refine wpA_loop [0,1,2,15,16] (ι:={k:Nat // k ≤ a.length ∧ a.take k = b.take k}) (fun p=>[(17,.int .i64 p.1)]) (fun _=>[]) (fun p=>a.length - p.1) ⟨0,by omega,rfl⟩ (Nat.zero_le _) ?_ ?_
  ·simp -implicitDefEqProofs (maxSteps:=600000) (disch:=(first | omega | decide)) only [go_sem,↓reduceIte,seval]
  ·rintro ⟨k,hk,hd⟩
   simp only
   by_cases hlt:k < a.length
   ·have hlt':(k:Int) < (a.length:Int):=by omega
    have hlt3:(k:Int) < (b.length:Int):=by omega
    have hltb:k < b.length:=by omega
    have e1:=known_get hlt
    have e2:=known_get hltb
    have m1:=sumK_mem (List.getElem_mem hlt)
    have m2:=sumK_mem (List.getElem_mem hltb)
    have t1:=(List.take_append_getElem hlt).symm
    have t2:=(List.take_append_getElem hltb).symm
    have hno:a[k] ≠ b[k] → sameK a b = false:=fun h=>by
     unfold sameK; simp; intro e; subst e; exact h rfl
    generalize hx:a[k] = x at *
    generalize hy:b[k] = y at *
    obtain ⟨n,rs⟩:=x
    obtain ⟨n',rs'⟩:=y
    simp only at m1 m2
    cases h1:sameO ⟨n,rs⟩ ⟨n',rs'⟩ with
    | false=>
     have hh:=hno (fun e=>by rw [sameO_iff.2 e] at h1; cases h1)
     simp -implicitDefEqProofs (maxSteps:=600000) (disch:=(first | omega | decide)) only [go_sem,↓reduceIte,seval,hlt',hlt3,e1,e2,h1,hh,List.length_map]
    | true=>
     have e:=sameO_iff.1 h1
     simp -implicitDefEqProofs (maxSteps:=600000) (disch:=(first | omega | decide)) only [go_sem,↓reduceIte,seval,hlt',hlt3,e1,e2,h1,wrap_i64,List.length_map]
     exact ⟨⟨k + 1,hlt,by rw [t1,t2,hd,e]⟩,by simp,by show a.length - (k + 1) < a.length - k; omega⟩
   ·have hlt':¬ (k:Int) < (a.length:Int):=by omega
    have hh:sameK a b = true:=by
     rw [List.take_of_length_le (by omega),List.take_of_length_le (by omega)] at hd
     simp [sameK,hd]
    simp -implicitDefEqProofs (maxSteps:=600000) (disch:=(first | omega | decide)) only [go_sem,↓reduceIte,seval,hlt',hh,List.length_map]
theorem ok_ref14_Same:codeOK Tryz.prog K14j Tryz.f85.ntmps (Tryz.f85.body.getD .skip) = true:=by kernel_rfl
theorem c_ref14_Same (a b:List Known) (ha:smallK a) (hb:smallK b):CallA Tryz.prog 85 [.slc (a.map Known.enc),.slc (b.map Known.enc)] (· = .bool (sameK a b)):=by
 refine callA_of_body K14j_ok mixed Tryz.func85 rfl (Nat.le_of_ble_eq_true rfl) ok_ref14_Same ?_
 unfold Tryz.f85
 obtain ⟨ha1,ha2⟩:=ha
 obtain ⟨hb1,hb2⟩:=hb
 cases h0:((a.length:Int) == (b.length:Int)) with
 | false=>
  have hne:a.length ≠ b.length:=by
   have:(a.length:Int) ≠ (b.length:Int):=by simpa using h0
   omega
  have hh:sameK a b = false:=by unfold sameK; simp; intro e; exact hne (by rw [e])
  simp -implicitDefEqProofs (maxSteps:=600000) (disch:=(first | omega | decide)) only [go_sem,↓reduceIte,seval,h0,hh,List.length_map]
 | true=>
  have he:a.length = b.length:=by
   have:(a.length:Int) = (b.length:Int):=by simpa using h0
   omega
  simp -implicitDefEqProofs (maxSteps:=600000) (disch:=(first | omega | decide)) only [go_sem,↓reduceIte,seval,h0,List.length_map]
  refine wpA_loop [0,1] (ι:={k:Nat // k ≤ a.length ∧ a.take k = b.take k}) (fun p=>[(5,.int .i64 p.1)]) (fun _=>[]) (fun p=>a.length - p.1) ⟨0,by omega,rfl⟩ (Nat.zero_le _) ?_ ?_
  ·simp -implicitDefEqProofs (maxSteps:=600000) (disch:=(first | omega | decide)) only [go_sem,↓reduceIte,seval]
  ·rintro ⟨k,hk,hd⟩
   simp only
   by_cases hlt:k < a.length
   ·have hlt':(k:Int) < (a.length:Int):=by omega
    have hlt3:(k:Int) < (b.length:Int):=by omega
    have hltb:k < b.length:=by omega
    have e1:=known_get hlt
    have e2:=known_get hltb
    have m1:=sumK_mem (List.getElem_mem hlt)
    have m2:=sumK_mem (List.getElem_mem hltb)
    have t1:=(List.take_append_getElem hlt).symm
    have t2:=(List.take_append_getElem hltb).symm
    have hno:a[k] ≠ b[k] → sameK a b = false:=fun h=>by
     unfold sameK; simp; intro e; subst e; exact h rfl
    generalize hx:a[k] = x at *
    generalize hy:b[k] = y at *
    obtain ⟨n,rs⟩:=x
    obtain ⟨n',rs'⟩:=y
    simp only at m1 m2
    cases h1:n == n' with
    | false=>
     have hh:=hno (by have:n ≠ n':=by simpa using h1
                      simp [this])
     simp -implicitDefEqProofs (maxSteps:=600000) (disch:=(first | omega | decide)) only [go_sem,↓reduceIte,seval,hlt',hlt3,e1,e2,h1,hh,List.length_map]
    | true=>
     obtain rfl:n = n':=by simpa using h1
     cases h2:sameL rs rs' with
     | false=>
      have hh:=hno (by have:rs ≠ rs':=by simpa [sameL] using h2
                       simp [this])
      simp -implicitDefEqProofs (maxSteps:=600000) (disch:=(first | omega | decide)) only [go_sem,↓reduceIte,seval,hlt',hlt3,e1,e2,h1,h2,hh,List.length_map]
     | true=>
      obtain rfl:rs = rs':=by simpa [sameL] using h2
      simp -implicitDefEqProofs (maxSteps:=600000) (disch:=(first | omega | decide)) only [go_sem,↓reduceIte,seval,hlt',hlt3,e1,e2,h1,h2,wrap_i64,List.length_map]
      exact ⟨⟨k + 1,hlt,by rw [t1,t2,hd]⟩,by simp,by show a.length - (k + 1) < a.length - k; omega⟩
   ·have hlt':¬ (k:Int) < (a.length:Int):=by omega
    have hh:sameK a b = true:=by
     rw [List.take_of_length_le (by omega),List.take_of_length_le (by omega)] at hd
     simp [sameK,hd]
    simp -implicitDefEqProofs (maxSteps:=600000) (disch:=(first | omega | decide)) only [go_sem,↓reduceIte,seval,hlt',hh,List.length_map]
def longK (s:List Known) (m:Int):Bool:=decide (m < (s.length:Int)) || s.any fun k=>decide (m < (k.rs.length:Int))
theorem ok_ref14_Long:codeOK Tryz.prog K14j Tryz.f123.ntmps (Tryz.f123.body.getD .skip) = true:=by kernel_rfl
theorem c_ref14_Long (s:List Known) (m:Int) (hs:s.length ≤ 9223372036854775807):CallA Tryz.prog 123 [.slc (s.map Known.enc),.int .i64 m] (· = .bool (longK s m)):=by
 refine callA_of_body K14j_ok mixed Tryz.func123 rfl (Nat.le_of_ble_eq_true rfl) ok_ref14_Long ?_
 unfold Tryz.f123
 by_cases h0:m < (s.length:Int)
 ·have hh:longK s m = true:=by unfold longK; rw [decide_eq_true h0]; rfl
  simp -implicitDefEqProofs (maxSteps:=600000) (disch:=(first | omega | decide)) only [go_sem,↓reduceIte,seval,h0,hh,List.length_map]
 ·simp -implicitDefEqProofs (maxSteps:=600000) (disch:=(first | omega | decide)) only [go_sem,↓reduceIte,seval,h0,List.length_map]
  refine wpA_loop [0,1] (ι:={k:Nat // k ≤ s.length ∧ longK s m = (s.drop k).any fun k=>decide (m < (k.rs.length:Int))}) (fun p=>[(5,.int .i64 p.1)]) (fun _=>[]) (fun p=>s.length - p.1) ⟨0,by omega,by unfold longK; rw [decide_eq_false h0,Bool.false_or]; rfl⟩ (Nat.zero_le _) ?_ ?_
  ·simp -implicitDefEqProofs (maxSteps:=600000) (disch:=(first | omega | decide)) only [go_sem,↓reduceIte,seval]
  ·rintro ⟨k,hk,hd⟩
   simp only at hk hd ⊢
   by_cases hlt:k < s.length
   ·have hlt':(k:Int) < (s.length:Int):=by omega
    have e1:=known_get hlt
    rw [List.drop_eq_getElem_cons hlt,List.any_cons] at hd
    generalize hx:s[k] = x at *
    obtain ⟨n,rs⟩:=x
    simp only at hd
    by_cases h1:m < (rs.length:Int)
    ·have hh:longK s m = true:=by rw [hd,decide_eq_true h1]; rfl
     simp -implicitDefEqProofs (maxSteps:=600000) (disch:=(first | omega | decide)) only [go_sem,↓reduceIte,seval,hlt',e1,h1,hh,List.length_map]
    ·rw [decide_eq_false h1,Bool.false_or] at hd
     simp -implicitDefEqProofs (maxSteps:=600000) (disch:=(first | omega | decide)) only [go_sem,↓reduceIte,seval,hlt',e1,h1,wrap_i64,List.length_map]
     exact ⟨⟨k + 1,hlt,hd⟩,by simp,by show s.length - (k + 1) < s.length - k; omega⟩
   ·have hlt':¬ (k:Int) < (s.length:Int):=by omega
    have hh:longK s m = false:=by rw [hd,List.drop_of_length_le (by omega)]; rfl
    simp -implicitDefEqProofs (maxSteps:=600000) (disch:=(first | omega | decide)) only [go_sem,↓reduceIte,seval,hlt',hh,List.length_map]
theorem ok_ref14_One:codeOK Tryz.prog K14j Tryz.f206.ntmps (Tryz.f206.body.getD .skip) = true:=by kernel_rfl
theorem c_ref14_One (n c:Int):CallA Tryz.prog 206 [.agg [.int .i64 n,.int .i64 c]] (· = .slc ([⟨n,[⟨c,c⟩]⟩].map Known.enc)):=by
 refine callA_of_body K14j_ok mixed Tryz.func206 rfl (Nat.le_of_ble_eq_true rfl) ok_ref14_One ?_
 unfold Tryz.f206
 simp -implicitDefEqProofs (maxSteps:=600000) (disch:=(first | omega | decide)) only [go_sem,↓reduceIte,seval,List.map_cons,List.map_nil]
noncomputable def K14k:Tab:=K14j.add 112 (entry (fun (v:List Known × List Known)=>[.slc (v.1.map Known.enc),.slc (v.2.map Known.enc),.fn 181 []]) (fun v=>smallK v.1 ∧ smallK v.2) (fun v=>.bool (sameK v.1 v.2)))
theorem K14k_ok:TabOK Tryz.prog K14k:=K14j_ok.add (callable_of Tryz.func112 (by kernel_rfl) (by kernel_rfl)) (entry_ok fun v h=>c_EqualFunc v.1 v.2 h.1 h.2)
@[go_sem] theorem K14k_old {g:FuncId} {xs:List A} (h:g ≠ 112):K14k.f g xs = K14j.f g xs:=Tab.add_ne h
theorem K14k_slices_EqualFunc_winnower_api_Known_winnower_api_Known_winnower_api_Known_winnower_api_Known (v:List Known × List Known) (h:smallK v.1 ∧ smallK v.2):K14k.f 112 [.slc (v.1.map Known.enc),.slc (v.2.map Known.enc),.fn 181 []] = some (.bool (sameK v.1 v.2)):=
 (Tab.add_eq:K14k.f 112 [.slc (v.1.map Known.enc),.slc (v.2.map Known.enc),.fn 181 []] = (entry (fun (v:List Known × List Known)=>[.slc (v.1.map Known.enc),.slc (v.2.map Known.enc),.fn 181 []]) (fun v=>smallK v.1 ∧ smallK v.2) (fun v=>.bool (sameK v.1 v.2))) [.slc (v.1.map Known.enc),.slc (v.2.map Known.enc),.fn 181 []]).trans (entry_eq (fun i j h=>by first | (cases i; cases j; rfl; done) | simpa [Prod.ext_iff,and_assoc] using h | (simp at h; omega) | (simp at h; exact Prod.ext h.1 (Prod.ext h.2.1 (by omega)))) v h)
noncomputable def K14l:Tab:=K14k.add 85 (entry (fun (v:List Known × List Known)=>[.slc (v.1.map Known.enc),.slc (v.2.map Known.enc)]) (fun v=>smallK v.1 ∧ smallK v.2) (fun v=>.bool (sameK v.1 v.2)))
theorem K14l_ok:TabOK Tryz.prog K14l:=K14k_ok.add (callable_of Tryz.func85 (by kernel_rfl) (by kernel_rfl)) (entry_ok fun v h=>c_ref14_Same v.1 v.2 h.1 h.2)
@[go_sem] theorem K14l_old {g:FuncId} {xs:List A} (h:g ≠ 85):K14l.f g xs = K14k.f g xs:=Tab.add_ne h
theorem K14l_ref14_Same (v:List Known × List Known) (h:smallK v.1 ∧ smallK v.2):K14l.f 85 [.slc (v.1.map Known.enc),.slc (v.2.map Known.enc)] = some (.bool (sameK v.1 v.2)):=
 (Tab.add_eq:K14l.f 85 [.slc (v.1.map Known.enc),.slc (v.2.map Known.enc)] = (entry (fun (v:List Known × List Known)=>[.slc (v.1.map Known.enc),.slc (v.2.map Known.enc)]) (fun v=>smallK v.1 ∧ smallK v.2) (fun v=>.bool (sameK v.1 v.2))) [.slc (v.1.map Known.enc),.slc (v.2.map Known.enc)]).trans (entry_eq (fun i j h=>by first | (cases i; cases j; rfl; done) | simpa [Prod.ext_iff,and_assoc] using h | (simp at h; omega) | (simp at h; exact Prod.ext h.1 (Prod.ext h.2.1 (by omega)))) v h)
noncomputable def K14m:Tab:=K14l.add 123 (entry (fun (v:List Known × Int)=>[.slc (v.1.map Known.enc),.int .i64 v.2]) (fun v=>v.1.length ≤ 9223372036854775807) (fun v=>.bool (longK v.1 v.2)))
theorem K14m_ok:TabOK Tryz.prog K14m:=K14l_ok.add (callable_of Tryz.func123 (by kernel_rfl) (by kernel_rfl)) (entry_ok fun v h=>c_ref14_Long v.1 v.2 h)
@[go_sem] theorem K14m_old {g:FuncId} {xs:List A} (h:g ≠ 123):K14m.f g xs = K14l.f g xs:=Tab.add_ne h
theorem K14m_ref14_Long (v:List Known × Int) (h:v.1.length ≤ 9223372036854775807):K14m.f 123 [.slc (v.1.map Known.enc),.int .i64 v.2] = some (.bool (longK v.1 v.2)):=
 (Tab.add_eq:K14m.f 123 [.slc (v.1.map Known.enc),.int .i64 v.2] = (entry (fun (v:List Known × Int)=>[.slc (v.1.map Known.enc),.int .i64 v.2]) (fun v=>v.1.length ≤ 9223372036854775807) (fun v=>.bool (longK v.1 v.2))) [.slc (v.1.map Known.enc),.int .i64 v.2]).trans (entry_eq (fun i j h=>by first | (cases i; cases j; rfl; done) | simpa [Prod.ext_iff,and_assoc] using h | (simp at h; omega) | (simp at h; exact Prod.ext h.1 (Prod.ext h.2.1 (by omega)))) v h)
noncomputable def K14n:Tab:=K14m.add 206 (entry (fun (v:Int × Int)=>[.agg [.int .i64 v.1,.int .i64 v.2]]) (fun v=>True) (fun v=>.slc ([⟨v.1,[⟨v.2,v.2⟩]⟩].map Known.enc)))
theorem K14n_ok:TabOK Tryz.prog K14n:=K14m_ok.add (callable_of Tryz.func206 (by kernel_rfl) (by kernel_rfl)) (entry_ok fun v h=>c_ref14_One v.1 v.2)
@[go_sem] theorem K14n_old {g:FuncId} {xs:List A} (h:g ≠ 206):K14n.f g xs = K14m.f g xs:=Tab.add_ne h
@[go_sem] theorem K14n_eff {g:FuncId}:K14n.eff g = false:=rfl
@[go_sem] theorem K14n_fix {n:Nat}:K14n.fix n = false:=rfl
@[go_sem] theorem K14n_ords {n:Nat}:K14n.ords n = []:=rfl
theorem K14n_ref14_One (v:Int × Int) (h:True):K14n.f 206 [.agg [.int .i64 v.1,.int .i64 v.2]] = some (.slc ([⟨v.1,[⟨v.2,v.2⟩]⟩].map Known.enc)):=
 (Tab.add_eq:K14n.f 206 [.agg [.int .i64 v.1,.int .i64 v.2]] = (entry (fun (v:Int × Int)=>[.agg [.int .i64 v.1,.int .i64 v.2]]) (fun v=>True) (fun v=>.slc ([⟨v.1,[⟨v.2,v.2⟩]⟩].map Known.enc))) [.agg [.int .i64 v.1,.int .i64 v.2]]).trans (entry_eq (fun i j h=>by first | (cases i; cases j; rfl; done) | simpa [Prod.ext_iff,and_assoc] using h | (simp at h; omega) | (simp at h; exact Prod.ext h.1 (Prod.ext h.2.1 (by omega)))) v h)
@[go_sem] theorem k_EqualFunc {a b:List Known} (ha:smallK a) (hb:smallK b):K14k.f 112 [.slc (a.map Known.enc),.slc (b.map Known.enc),.fn 181 []] = some (.bool (sameK a b)):=K14k_slices_EqualFunc_winnower_api_Known_winnower_api_Known_winnower_api_Known_winnower_api_Known (a,b) ⟨ha,hb⟩
@[go_sem] theorem k_ref14_Same {a b:List Known} (ha:smallK a) (hb:smallK b):K14l.f 85 [.slc (a.map Known.enc),.slc (b.map Known.enc)] = some (.bool (sameK a b)):=K14l_ref14_Same (a,b) ⟨ha,hb⟩
@[go_sem] theorem k_ref14_Long {s:List Known} {m:Int} (hs:s.length ≤ 9223372036854775807):K14m.f 123 [.slc (s.map Known.enc),.int .i64 m] = some (.bool (longK s m)):=K14m_ref14_Long (s,m) hs
@[go_sem] theorem k_ref14_One {n c:Int}:K14n.f 206 [.agg [.int .i64 n,.int .i64 c]] = some (.slc ([⟨n,[⟨c,c⟩]⟩].map Known.enc)):=K14n_ref14_One (n,c) trivial
end Go.Proofs.YtjfdlpagcgpaoaaGreat
namespace Go.Proofs.YtjfdlpagcgpaoaaGreat
open Go.Abs
set_option linter.unusedSimpArgs false
set_option linter.unusedVariables false
set_option maxRecDepth 20000
set_option maxHeartbeats 8000000
def slcR (l:List Run):A:=.slc (l.map Run.enc)
theorem slcR_inj (l m:List Run) (h:slcR l = slcR m):l = m:=by simpa [slcR] using h
@[simp] theorem map_slcR_inj {L M:List (List Run)}:(L.map slcR = M.map slcR) = (L = M):=map_inj slcR_inj
def tabL (s:List Known):List (List Run):=(List.range 16).map fun i=>runsK s ((i:Nat) + 1)
theorem tabL_len (s:List Known):(tabL s).length = 16:=by simp [tabL]
theorem tabL_get (s:List Known) {i:Nat} (h:i < 16):(tabL s)[i]? = some (runsK s (i + 1)):=by
 simp [tabL,h]
theorem tabL_ext {L:List (List Run)} {s:List Known} (hl:L.length = 16) (h:∀ i:Nat,i < 16 → L[i]? = some (runsK s (i + 1))):L = tabL s:=by
 apply List.ext_getElem?
 intro i
 rcases Nat.lt_or_ge i 16 with hi | hi
 ·rw [h i hi,tabL_get s hi]
 ·rw [List.getElem?_eq_none (by omega),List.getElem?_eq_none (by rw [tabL_len]; omega)]
theorem tabL_snoc {s:List Known} {k:Nat} (h:k < s.length) (hr:repOK s[k].n = true):tabL (s.take (k + 1)) = (tabL (s.take k)).set (s[k].n - 1).toNat (runsK (s.take k) s[k].n ++ s[k].rs):=by
 rw [repOK_iff] at hr
 symm
 refine tabL_ext (by rw [List.length_set,tabL_len]) fun i hi=>?_
 rw [List.getElem?_set,tabL_len,tabL_get _ hi,runsK_snoc h]
 by_cases e:(s[k].n - 1).toNat = i
 ·have e2:s[k].n = (i:Int) + 1:=by omega
  rw [if_pos e,if_pos (by omega),if_pos e2,← e2]
 ·rw [if_neg e,if_neg (by omega),List.append_nil]
theorem tabL_skip {s:List Known} {k:Nat} (h:k < s.length) (hr:repOK s[k].n = false):tabL (s.take (k + 1)) = tabL (s.take k):=by
 symm
 refine tabL_ext (by rw [tabL_len]) fun i hi=>?_
 rw [tabL_get _ hi,runsK_snoc h,if_neg,List.append_nil]
 intro e
 rw [← Bool.not_eq_true,repOK_iff] at hr
 omega
theorem tab_head {L:List (List Run)} {i:Nat} {l:List Run} (h:L[i]? = some l):((L.map slcR).drop (i * 1)).head? = some (.slc (l.map Run.enc)):=by
 rw [Nat.mul_one,List.head?_drop,List.getElem?_map,h]; rfl
theorem splice_one {cs:List A} {i:Nat} {x:A} (h:i < cs.length):spliceA cs i [x] = cs.set i x:=by
 unfold spliceA
 rw [List.set_eq_take_append_cons_drop,if_pos h]; simp
theorem leL_self {m:Nat}:∀ {cs:List A},A.under.underL m cs = true → leL m cs cs
 | [],_=>by simp [leL]
 | c :: cs,h=>by
  simp only [A.under.underL,Bool.and_eq_true] at h
  simp only [leL]
  exact ⟨.inr ⟨trivial,h.1⟩,leL_self h.2⟩
theorem under_tab {m:Nat} (L:List (List Run)):A.under.underL m (L.map slcR) = true:=by
 induction L with
 | nil=>rfl
 | cons l L ih=>simp only [List.map_cons,A.under.underL,ih,Bool.and_true]; rfl
theorem frz_tab {ρ:List Nat} {H:List Go.Abs.Obj} (L:List (List Run)):(L.map slcR).map (frzA ρ H) = L.map slcR:=by
 rw [List.map_map]
 apply List.map_congr_left
 intro l _
 show frzA ρ H (.slc (l.map Run.enc)) = .slc (l.map Run.enc)
 unfold frzA
 rw [if_neg]
 simp [A.meets,A.mem]
theorem scrub_tab {n:Nat} (L:List (List Run)):(L.map slcR).map (scrubA n) = L.map slcR:=by
 rw [List.map_map]
 apply List.map_congr_left
 intro l _
 show scrubA n (.slc (l.map Run.enc)) = .slc (l.map Run.enc)
 unfold scrubA
 rw [if_neg]
 simp [A.mem]
theorem view_tab {H:List Go.Abs.Obj} (L:List (List Run)):view0L H (L.map slcR) = some (L.map slcR):=by
 induction L with
 | nil=>rfl
 | cons l L ih=>simp only [List.map_cons,view0L,ih]; rfl
theorem take_tab {L:List (List Run)} (h:L.length = 16):List.take 16 (L.map slcR) = L.map slcR:=List.take_of_length_le (by simp [h])
theorem frz_set {n len i:Nat} {es:List A} (L:List (List Run)) (hi:i < L.length) (hl:len ≤ es.length) :
 List.map (frzA [n] [Go.Abs.Obj.row 2 es]) (List.take (i * 1) (L.map slcR) ++ [A.row n 0 2 len false] ++ List.drop (i * 1 + 1) (L.map slcR)) = (L.map slcR).set i (.slc (es.take len)):=by
 rw [Nat.mul_one,List.map_append,List.map_append,List.map_take,List.map_drop,frz_tab,List.set_eq_take_append_cons_drop,if_pos (by simp [hi])]
 have e:frzA [n] [Go.Abs.Obj.row 2 es] (A.row n 0 2 len false) = .slc (es.take len):=by
  simp [frzA,A.meets,A.mem,A.ren,idx,view,view1,view0,viewRow,nthO,hl]
 simp [e]
noncomputable def K14Fa:Tab:=K14n.addH 230 (entryH (fun l:List Run=>[.slc (l.map Run.enc)]) (fun _=>[]) (fun l=>l.length ≤ 4398046511104) (fun l=>(.row 0 0 2 l.length false,[.row 2 (l.map Run.enc)],[])))
noncomputable def K14F:Tab:={ K14Fa with eff:=fun f=>f == 230,ords:=fun n=>if n = 7 then
 [[1,2,3,0,4,5,6,7,8,9],[1,2,3,0,5,4,6,7,8,9],[1,2,3,0,5,6,4,7,8,9],[1,2,3,4,5,6,0,7,8,9],[1,2,3,4,5,6,7,0,8,9],[1,2,3,5,0,4,6,7,8,9],
  [1,2,3,5,0,6,4,7,8,9],[1,2,3,5,4,6,0,7,8,9],[1,2,3,5,4,6,7,0,8,9],[1,2,3,5,6,0,4,7,8,9],[1,2,3,5,6,4,0,7,8,9],[1,2,3,5,6,4,7,0,8,9]] else [] }
theorem K14Fa_ok:TabOK Tryz.prog K14Fa:=K14n_ok.addH (callable_of Tryz.func230 (by kernel_rfl) (by kernel_rfl)) (entryH_ok fun l h=>h_Clone_Run l h)
theorem K14F_ok:TabOK Tryz.prog K14F:=⟨K14Fa_ok.f,K14Fa_ok.hp⟩
@[go_sem] theorem K14F_f:K14F.f = K14n.f:=rfl
@[go_sem] theorem K14F_eff {g:FuncId}:K14F.eff g = (g == 230):=rfl
@[go_sem] theorem K14F_frz {g:FuncId}:K14F.frz g = false:=rfl
@[go_sem] theorem K14F_fix {n:Nat}:K14F.fix n = false:=rfl
@[go_sem] theorem K14F_ords0:K14F.ords 0 = []:=rfl
@[go_sem] theorem K14F_ords1:K14F.ords 1 = []:=rfl
@[go_sem] theorem K14F_ords2:K14F.ords 2 = []:=rfl
@[go_sem] theorem K14F_ords3:K14F.ords 3 = []:=rfl
@[go_sem] theorem K14F_ords4:K14F.ords 4 = []:=rfl
@[go_sem] theorem K14F_ords5:K14F.ords 5 = []:=rfl
@[go_sem] theorem K14F_ords6:K14F.ords 6 = []:=rfl
@[go_sem] theorem K14F_ords7:K14F.ords 7 = [[1,2,3,0,4,5,6,7,8,9],[1,2,3,0,5,4,6,7,8,9],[1,2,3,0,5,6,4,7,8,9],[1,2,3,4,5,6,0,7,8,9],[1,2,3,4,5,6,7,0,8,9],[1,2,3,5,0,4,6,7,8,9],
 [1,2,3,5,0,6,4,7,8,9],[1,2,3,5,4,6,0,7,8,9],[1,2,3,5,4,6,7,0,8,9],[1,2,3,5,6,0,4,7,8,9],[1,2,3,5,6,4,0,7,8,9],[1,2,3,5,6,4,7,0,8,9]]:=rfl
@[go_sem] theorem K14F_ords8:K14F.ords 8 = []:=rfl
@[go_sem] theorem K14F_ords9:K14F.ords 9 = []:=rfl
theorem K14F_clone {l:List Run} (h:l.length ≤ 4398046511104):K14F.hp 230 [.slc (l.map Run.enc)] [] = some (.row 0 0 2 l.length false,[.row 2 (l.map Run.enc)],[]):=by
 have h0:K14Fa.hp 230 [.slc (l.map Run.enc)] [] = entryH (fun l:List Run=>[A.slc (l.map Run.enc)]) (fun _=>[]) (fun l=>l.length ≤ 4398046511104) (fun l=>(.row 0 0 2 l.length false,[.row 2 (l.map Run.enc)],[])) [.slc (l.map Run.enc)] []:=Tab.addH_eq
 exact h0.trans (entryH_eq (enc:=fun l:List Run=>[A.slc (l.map Run.enc)]) (obs:=fun _=>[]) (fun i j h _=>by simpa using h) l h)
theorem ok_vset_fill:codeOK Tryz.prog K14F Tryz.f183.ntmps (Tryz.f183.body.getD .skip) = true:=by kernel_rfl
theorem c_vset_fill (s:List Known) (hs:smallK s):CallA Tryz.prog 183 [.slc (s.map Known.enc)] (· = .agg ((tabL s).map slcR)):=by
 refine callA_of_body K14F_ok mixed Tryz.func183 rfl (Nat.le_of_ble_eq_true rfl) ok_vset_fill ?_
 unfold Tryz.f183
 obtain ⟨hs1,hs2⟩:=hs
 simp -implicitDefEqProofs (maxSteps:=600000) (disch:=(first | omega | decide)) only [go_sem,↓reduceIte,seval,List.length_map]
 refine wpA_loop_norm 1 _ rfl ?_
 refine wpA_loopF [4] (by simp) (fun _ _=>Nat.zero_le _) [0,2,3,7,8] (ι:={k:Nat // k ≤ s.length}) (fun p=>[(9,.int .i64 p.1)]) (fun p=>[(1,.box ((tabL (s.take p.1)).map slcR))]) (fun p=>s.length - p.1) ⟨0,by omega⟩ (Nat.zero_le _) ?_ ?_
 ·simp -implicitDefEqProofs (maxSteps:=600000) (disch:=(first | omega | decide)) only [go_sem,↓reduceIte,seval]
  exact leL_self (cs:=(tabL (s.take 0)).map slcR) (under_tab _)
 ·rintro ⟨k,hk⟩
  simp only
  have tl:((tabL (s.take k)).map slcR).length = 16:=by rw [List.length_map,tabL_len]
  by_cases hlt:k < s.length
  ·have hlt':(k:Int) < (s.length:Int):=by omega
   have e1:=known_get hlt
   have hm:=sumK_take hlt
   have hsn:=tabL_snoc hlt
   have hsk:=tabL_skip hlt
   generalize hx:s[k] = x at *
   obtain ⟨n,rs⟩:=x
   simp only at hm hsn hsk
   cases h1:repOK n with
   | false=>
    have hsk':=hsk h1
    simp -implicitDefEqProofs (maxSteps:=600000) (disch:=(first | omega | decide)) only [go_sem,↓reduceIte,seval,hlt',e1,h1,wrap_i64,List.length_map]
    exact ⟨⟨k + 1,hlt⟩,.inl ⟨by simp,by rw [hsk']; exact leL_self (under_tab _)⟩,by show s.length - (k + 1) < s.length - k; omega⟩
   | true=>
    have hsn':=hsn h1
    have st:=stRuns rs
    rw [repOK_iff] at h1
    have h2:repOK n = true:=repOK_iff.2 h1
    have g1:=tab_head (tabL_get (s.take k) (i:=(n - 1).toNat) (by omega))
    rw [show (((n - 1).toNat:Nat):Int) + 1 = n by omega] at g1
    have hrl:=runsK_len (s.take k) n
    have hcl:=K14F_clone (l:=runsK (s.take k) n) (by omega)
    have c1:(0:Int) ≤ n - 1:=by omega
    have c2:n - 1 < 16:=by omega
    have sp:∀ x:A,spliceA ((tabL (s.take k)).map slcR) ((n - 1).toNat * 1) [x] = ((tabL (s.take k)).map slcR).set (n - 1).toNat x:=fun x=>by rw [Nat.mul_one]; exact splice_one (by rw [tl]; omega)
    simp -implicitDefEqProofs (maxSteps:=600000) (disch:=(first | omega | decide)) only [go_sem,↓reduceIte,seval,hlt',e1,h2,st,g1,hcl,c1,c2,sp,tl,wrap_i64,List.length_map,List.contains_nil,List.contains_cons]
    refine ⟨⟨Nat.le_refl _,by omega⟩,by omega,⟨k + 1,hlt⟩,.inr ⟨by simp,?_⟩,by show s.length - (k + 1) < s.length - k; omega⟩
    have hes:(List.take (runsK (s.take k) n).length ((runsK (s.take k) n).map Run.enc) ++ rs.map Run.enc) = (runsK (s.take k) n ++ rs).map Run.enc:=by
     rw [List.take_of_length_le (by simp),List.map_append]
    rw [scrub_tab,hes,frz_set _ (by rw [tabL_len]; omega) (by simp),hsn',List.map_set]
    have htk:((runsK (s.take k) n ++ rs).map Run.enc).take ((runsK (s.take k) n).length + rs.length) = (runsK (s.take k) n ++ rs).map Run.enc:=List.take_of_length_le (by simp)
    rw [htk]
    have:=under_tab (m:=2) ((tabL (s.take k)).set (n - 1).toNat (runsK (s.take k) n ++ rs))
    rw [List.map_set] at this
    exact leL_self this
  ·have hlt':¬ (k:Int) < (s.length:Int):=by omega
   rw [List.take_of_length_le (by omega)] at *
   have tl':=tabL_len s
   have tk:=take_tab tl'
   have vt:∀ H,view0L H ((tabL s).map slcR) = some ((tabL s).map slcR):=fun H=>view_tab _
   have dn:List.drop 16 [A.nils,A.nils,A.nils,A.nils,A.nils,A.nils,A.nils,A.nils,A.nils,A.nils,A.nils,A.nils,A.nils,A.nils,A.nils,A.nils] = []:=rfl
   simp -implicitDefEqProofs (maxSteps:=600000) (disch:=(first | omega | decide)) only [go_sem,↓reduceIte,seval,hlt',tl',tk,vt,dn,List.append_nil,List.length_map]
end Go.Proofs.YtjfdlpagcgpaoaaGreat
namespace Go.Proofs.YtjfdlpagcgpaoaaGreat
open Go.Abs
set_option linter.unusedSimpArgs false
set_option linter.unusedVariables false
set_option maxRecDepth 20000
set_option maxHeartbeats 8000000
def getL (L:List (List Run)) (n:Int):List Run:=L.getD (n - 1).toNat []
noncomputable def setL (L:List (List Run)):List Known:=setT fun n=>setR (hasL13 (getL L n))
theorem getL_succ {L:List (List Run)} {k:Nat} {l:List Run} (h:L[k]? = some l):getL L ((k:Int) + 1) = l:=by
 unfold getL
 rw [show ((k:Int) + 1 - 1).toNat = k by omega,List.getD_eq_getElem?_getD,h]; rfl
theorem mkT_step {t:Int → List Run} {k:Nat}:mkT t (k + 1) = if (t (k + 1)).isEmpty then mkT t k else mkT t k ++ [⟨k + 1,t (k + 1)⟩]:=rfl
theorem set_len' (p:Int → Bool):(setR p).length ≤ 1099511627776:=of_len' (setR_right p)
theorem mem_tab {n:Nat} (L:List (List Run)):A.mem.memL n (L.map slcR) = false:=by
 induction L with
 | nil=>rfl
 | cons l L ih=>simp only [List.map_cons,A.mem.memL,ih,Bool.or_false]; rfl
theorem ok_winnower_vset_table_set:codeOK Tryz.prog K14n Tryz.f228.ntmps (Tryz.f228.body.getD .skip) = true:=by kernel_rfl
theorem c_table_set (L:List (List Run)) (hL:L.length = 16) (hl:∀ l ∈ L,l.length ≤ 4398046511104):CallA Tryz.prog 228 [.agg (L.map slcR)] (· = .slc ((setL L).map Known.enc)):=by
 refine callA_of_body K14n_ok mixed Tryz.func228 rfl (Nat.le_of_ble_eq_true rfl) ok_winnower_vset_table_set ?_
 unfold Tryz.f228
 have tk:=take_tab hL
 have tl:(L.map slcR).length = 16:=by rw [List.length_map,hL]
 have hu:=under_tab (m:=2) L
 have hle:=leL_self hu
 have hsc:=scrub_tab (n:=1) L
 have hme:=mem_tab (n:=1) L
 simp -implicitDefEqProofs (maxSteps:=600000) (disch:=(first | omega | decide)) only [go_sem,↓reduceIte,seval,tk,tl]
 refine wpA_loop_nil 3 2 rfl ?_
 refine wpA_loop [0,1,2,6] (ι:={k:Nat // k ≤ 16}) (fun p=>[(7,.int .i64 p.1),(3,.row 1 0 2 (mkT (fun n=>setR (hasL13 (getL L n))) p.1).length false)]) (fun p=>[(1,.row 2 ((mkT (fun n=>setR (hasL13 (getL L n))) p.1).map Known.enc))]) (fun p=>16 - p.1) ⟨0,by omega⟩ (Nat.zero_le _) ?_ ?_
 ·simp -implicitDefEqProofs (maxSteps:=600000) (disch:=(first | omega | decide)) only [go_sem,↓reduceIte,seval,hu,hle]
  simp [mkT]
 ·rintro ⟨k,hk⟩
  simp only
  have hml:=mkT_len (fun n=>setR (hasL13 (getL L n))) k
  by_cases hlt:k < 16
  ·have hlt':(k:Int) < 16:=by omega
   have hkl:k < L.length:=by omega
   have hg:L[k]? = some L[k]:=List.getElem?_eq_getElem hkl
   have g1:=tab_head hg
   have hll:=hl L[k] (List.getElem_mem hkl)
   have hst:=mkT_step (t:=fun n=>setR (hasL13 (getL L n))) (k:=k)
   simp only [getL_succ hg] at hst
   have hsl:=set_len' (hasL13 L[k])
   generalize L[k] = x at *
   have c1:(0:Int) ≤ (k:Int):=by omega
   cases hr:setR (hasL13 x) with
   | nil=>
    rw [hr] at hst hsl
    simp only [List.isEmpty_nil,if_true] at hst
    simp -implicitDefEqProofs (maxSteps:=600000) (disch:=(first | omega | decide)) only [go_sem,↓reduceIte,seval,hu,hle,hlt',c1,g1,hr,wrap_i64,List.length_map,List.map_nil]
    exact ⟨⟨k + 1,by omega⟩,⟨⟨by simp,by rw [hst]⟩,by rw [hst]⟩,by show 16 - (k + 1) < 16 - k; omega⟩
   | cons r rs=>
    rw [hr] at hst hsl
    simp only [List.isEmpty_cons,Bool.false_eq_true,if_false] at hst
    have c2:(0:Int) < ((rs.length + 1:Nat):Int):=by omega
    simp -implicitDefEqProofs (maxSteps:=600000) (disch:=(first | omega | decide)) only [go_sem,↓reduceIte,seval,hu,hle,hsc,hme,hlt',c1,c2,g1,hr,wrap_i64,List.length_map,List.map_cons,List.length_cons]
    exact ⟨⟨Nat.le_refl _,by omega⟩,⟨k + 1,by omega⟩,⟨⟨by simp,by rw [hst,List.length_append]; rfl⟩,by rw [hst,List.map_append,List.take_of_length_le (by simp)]; rfl⟩,by show 16 - (k + 1) < 16 - k; omega⟩
  ·have hlt':¬ (k:Int) < 16:=by omega
   obtain rfl:k = 16:=by omega
   simp -implicitDefEqProofs (maxSteps:=600000) (disch:=(first | omega | decide)) only [go_sem,↓reduceIte,seval,hlt',List.length_map]
   exact ⟨Nat.le_refl _,by rw [List.take_of_length_le (by simp)]; rfl⟩
end Go.Proofs.YtjfdlpagcgpaoaaGreat
namespace Go.Proofs.YtjfdlpagcgpaoaaGreat
open Go.Abs
set_option linter.unusedSimpArgs false
set_option linter.unusedVariables false
set_option maxRecDepth 20000
set_option maxHeartbeats 8000000
noncomputable def K14o:Tab:=K14n.add 183 (entry (fun (s:List Known)=>[.slc (s.map Known.enc)]) (fun s=>smallK s) (fun s=>.agg ((tabL s).map slcR)))
theorem K14o_ok:TabOK Tryz.prog K14o:=K14n_ok.add (callable_of Tryz.func183 (by kernel_rfl) (by kernel_rfl)) (entry_ok fun s h=>c_vset_fill s h)
@[go_sem] theorem K14o_old {g:FuncId} {xs:List A} (h:g ≠ 183):K14o.f g xs = K14n.f g xs:=Tab.add_ne h
theorem K14o_vset_fill (s:List Known) (h:smallK s):K14o.f 183 [.slc (s.map Known.enc)] = some (.agg ((tabL s).map slcR)):=
 (Tab.add_eq:K14o.f 183 [.slc (s.map Known.enc)] = (entry (fun (s:List Known)=>[.slc (s.map Known.enc)]) (fun s=>smallK s) (fun s=>.agg ((tabL s).map slcR))) [.slc (s.map Known.enc)]).trans (entry_eq (fun i j h=>by first | (cases i; cases j; rfl; done) | simpa [Prod.ext_iff,and_assoc] using h | (simp at h; omega) | (simp at h; exact Prod.ext h.1 (Prod.ext h.2.1 (by omega)))) s h)
@[go_sem] theorem k_vset_fill {s:List Known} (h:smallK s):K14o.f 183 [.slc (s.map Known.enc)] = some (.agg ((tabL s).map slcR)):=K14o_vset_fill s h
noncomputable def K14p:Tab:=K14o.add 228 (entry (fun (L:List (List Run))=>[.agg (L.map slcR)]) (fun L=>L.length = 16 ∧ ∀ l ∈ L,l.length ≤ 4398046511104) (fun L=>.slc ((setL L).map Known.enc)))
theorem K14p_ok:TabOK Tryz.prog K14p:=K14o_ok.add (callable_of Tryz.func228 (by kernel_rfl) (by kernel_rfl)) (entry_ok fun L h=>c_table_set L h.1 h.2)
@[go_sem] theorem K14p_old {g:FuncId} {xs:List A} (h:g ≠ 228):K14p.f g xs = K14o.f g xs:=Tab.add_ne h
@[go_sem] theorem K14p_eff {g:FuncId}:K14p.eff g = false:=rfl
@[go_sem] theorem K14p_fix {n:Nat}:K14p.fix n = false:=rfl
@[go_sem] theorem K14p_ords {n:Nat}:K14p.ords n = []:=rfl
theorem K14p_winnower_vset_table_set (L:List (List Run)) (h:L.length = 16 ∧ ∀ l ∈ L,l.length ≤ 4398046511104):K14p.f 228 [.agg (L.map slcR)] = some (.slc ((setL L).map Known.enc)):=
 (Tab.add_eq:K14p.f 228 [.agg (L.map slcR)] = (entry (fun (L:List (List Run))=>[.agg (L.map slcR)]) (fun L=>L.length = 16 ∧ ∀ l ∈ L,l.length ≤ 4398046511104) (fun L=>.slc ((setL L).map Known.enc))) [.agg (L.map slcR)]).trans (entry_eq (fun i j h=>by first | (cases i; cases j; rfl; done) | simpa [Prod.ext_iff,and_assoc] using h | (simp at h; omega) | (simp at h; exact Prod.ext h.1 (Prod.ext h.2.1 (by omega)))) L h)
theorem k_table_set {L:List (List Run)} (h1:L.length = 16) (h2:∀ l ∈ L,l.length ≤ 4398046511104):K14p.f 228 [.agg (L.map slcR)] = some (.slc ((setL L).map Known.enc)):=K14p_winnower_vset_table_set L ⟨h1,h2⟩
theorem tabL_mem {s:List Known} {l:List Run} (h:l ∈ tabL s):l.length ≤ sumK s:=by
 unfold tabL at h
 obtain ⟨i,_,rfl⟩:=List.mem_map.1 h
 exact runsK_len s _
theorem getL_tab {s:List Known} {n:Int} (h:repOK n = true):getL (tabL s) n = runsK s n:=by
 rw [repOK_iff] at h
 unfold getL
 rw [List.getD_eq_getElem?_getD,tabL_get s (by omega)]
 show runsK s _ = _
 rw [show (((n - 1).toNat:Nat):Int) + 1 = n by omega]
noncomputable def ofK (s:List Known):List Known:=setT fun n=>setR (hasL13 (runsK s n))
theorem setL_tab (s:List Known):setL (tabL s) = ofK s:=setT_congr fun n h=>by simp only [getL_tab h]
noncomputable def opK (op:Int) (a b:List Known):List Known:=setT fun n=>setR (opP op (runsK a n) (runsK b n))
theorem ok_vset_Of:codeOK Tryz.prog K14p Tryz.f180.ntmps (Tryz.f180.body.getD .skip) = true:=by kernel_rfl
theorem c_vset_Of (s:List Known) (hs:smallK s):CallA Tryz.prog 180 [.slc (s.map Known.enc)] (· = .slc ((ofK s).map Known.enc)):=by
 refine callA_of_body K14p_ok mixed Tryz.func180 rfl (Nat.le_of_ble_eq_true rfl) ok_vset_Of ?_
 unfold Tryz.f180
 have h1:=k_vset_fill hs
 have h2:=k_table_set (L:=tabL s) (tabL_len s) (fun l hl=>by have:=tabL_mem hl; have:=hs.2; omega)
 rw [setL_tab] at h2
 have hme:=fun n=>mem_tab (n:=n) (tabL s)
 have hvt:=fun H=>view_tab (H:=H) (tabL s)
 have hp:A.pure.pureL ((tabL s).map slcR) = true:=by
  generalize tabL s = L
  induction L with
  | nil=>rfl
  | cons l L ih=>simp only [List.map_cons,A.pure.pureL,ih,Bool.and_true]; rfl
 simp -implicitDefEqProofs (maxSteps:=600000) (disch:=(first | omega | decide)) only [go_sem,↓reduceIte,seval,h1,h2,hme,hvt,hp]
theorem pure_tab (L:List (List Run)):A.pure.pureL (L.map slcR) = true:=by
 induction L with
 | nil=>rfl
 | cons l L ih=>simp only [List.map_cons,A.pure.pureL,ih,Bool.and_true]; rfl
end Go.Proofs.YtjfdlpagcgpaoaaGreat
namespace Go.Proofs.YtjfdlpagcgpaoaaGreat
open Go.Abs
set_option linter.unusedSimpArgs false
set_option linter.unusedVariables false
set_option maxRecDepth 20000
set_option maxHeartbeats 8000000
theorem setR_has_len (l:List Run):(setR (hasL13 l)).length ≤ l.length:=by
 rw [← srtL_all,List.length_reverse]
 have h1:=fold_len (srtL l) []
 have h2:=(srtL_perm l).length_eq
 have h3:=List.length_filter_le oneR l
 simp only [List.length_nil] at h1; omega
theorem setR_op_len (op:Int) (a b:List Run):(setR (opP op a b)).length ≤ 2 * a.length + 2 * b.length:=by
 rw [← mkA_all,List.length_reverse]
 have h1:=mkA_len (opP op a b) (edges2 a b) ((edges2 a b).length - 1)
 have h2:=edges2_len a b
 omega
theorem sumK_mkT {t:Int → List Run} {B:Nat} (h:∀ n,(t n).length ≤ B):∀ k,sumK (mkT t k) ≤ k * B
 | 0=>by simp [mkT,sumK]
 | k + 1=>by
  have ih:=sumK_mkT h k
  have h1:=h (k + 1)
  rw [Nat.succ_mul]
  simp only [mkT]; split
  ·omega
  ·rw [sumK_append]
   have e:sumK [⟨(k:Int) + 1,t (k + 1)⟩] = (t (k + 1)).length:=by simp [sumK]
   omega
theorem sumK_setT {t:Int → List Run} {B:Nat} (h:∀ n,(t n).length ≤ B):sumK (setT t) ≤ 16 * B ∧ (setT t).length ≤ 16:=⟨sumK_mkT h 16,mkT_len t 16⟩
theorem sumK_of {s:List Known} {B:Nat} (hs:sumK s ≤ B):sumK (ofK s) ≤ 16 * B ∧ (ofK s).length ≤ 16:=
 sumK_setT (t:=fun n=>setR (hasL13 (runsK s n))) fun n=>by
  have h1:=setR_has_len (runsK s n)
  have h2:=runsK_len s n
  omega
def midK (s:List Known):Prop:=smallK s ∧ ∀ n,(runsK s n).length ≤ 50000
theorem mid_of {s:List Known} (h:s.length ≤ 1000000) (h':sumK s ≤ 50000):midK s:=⟨⟨h,by omega⟩,fun n=>by have:=runsK_len s n; omega⟩
theorem mid_ofK {s:List Known} (h:sumK s ≤ 50000):midK (ofK s):=by
 have h1:=sumK_of h
 refine ⟨⟨by omega,by omega⟩,fun n=>?_⟩
 unfold ofK
 rw [setT_runs]
 split
 ·have h2:=setR_has_len (runsK s n)
  have h3:=runsK_len s n
  omega
 ·simp
theorem ok_ref14_Make:codeOK Tryz.prog K14p Tryz.f173.ntmps (Tryz.f173.body.getD .skip) = true:=by kernel_rfl
theorem c_ref14_Make (op:Int) (a b:List Known) (hop:opOK op) (ha:midK a) (hb:midK b):CallA Tryz.prog 173 [.int .i64 op,.slc (a.map Known.enc),.slc (b.map Known.enc)] (· = .slc ((opK op a b).map Known.enc)):=by
 refine callA_of_body K14p_ok mixed Tryz.func173 rfl (Nat.le_of_ble_eq_true rfl) ok_ref14_Make ?_
 unfold Tryz.f173
 simp -implicitDefEqProofs (maxSteps:=600000) (disch:=(first | omega | decide)) only [go_sem,↓reduceIte,seval,List.length_map]
 refine wpA_loop_nil 7 2 rfl ?_
 refine wpA_loop [0,1,2] (ι:={k:Nat // k ≤ 16}) (fun p=>[(8,.int .i64 ((p.1:Int) + 1)),(7,.row 0 0 2 (mkT (fun n=>setR (opP op (runsK a n) (runsK b n))) p.1).length false)]) (fun p=>[(0,.row 2 ((mkT (fun n=>setR (opP op (runsK a n) (runsK b n))) p.1).map Known.enc))]) (fun p=>16 - p.1) ⟨0,by omega⟩ (Nat.zero_le _) ?_ ?_
 ·simp -implicitDefEqProofs (maxSteps:=600000) (disch:=(first | omega | decide)) only [go_sem,↓reduceIte,seval]
  simp [mkT]
 ·rintro ⟨k,hk⟩
  simp only
  have hml:=mkT_len (fun n=>setR (opP op (runsK a n) (runsK b n))) k
  by_cases hlt:k < 16
  ·have hlt':(k:Int) + 1 ≤ 16:=by omega
   have r1:=k_ref14_Runs (n:=(k:Int) + 1) ha.1
   have r2:=k_ref14_Runs (n:=(k:Int) + 1) hb.1
   have hM:=T13m_ref13_Make (op,runsK a ((k:Int) + 1),runsK b ((k:Int) + 1)) ⟨hop,ha.2 _,hb.2 _⟩
   simp only at hM
   have hst:=mkT_step (t:=fun n=>setR (opP op (runsK a n) (runsK b n))) (k:=k)
   have hsl:=set_len' (opP op (runsK a ((k:Int) + 1)) (runsK b ((k:Int) + 1)))
   cases hr:setR (opP op (runsK a ((k:Int) + 1)) (runsK b ((k:Int) + 1))) with
   | nil=>
    rw [hr] at hst hsl
    simp only [List.isEmpty_nil,if_true] at hst
    simp -implicitDefEqProofs (maxSteps:=600000) (disch:=(first | omega | decide)) only [go_sem,↓reduceIte,seval,hlt',r1,r2,hM,hr,wrap_i64,List.length_map,List.map_nil]
    exact ⟨⟨k + 1,by omega⟩,⟨⟨by simp,by rw [hst]⟩,by rw [hst]⟩,by show 16 - (k + 1) < 16 - k; omega⟩
   | cons r rs=>
    rw [hr] at hst hsl
    simp only [List.isEmpty_cons,Bool.false_eq_true,if_false] at hst
    have c2:(0:Int) < ((rs.length + 1:Nat):Int):=by omega
    simp -implicitDefEqProofs (maxSteps:=600000) (disch:=(first | omega | decide)) only [go_sem,↓reduceIte,seval,hlt',c2,r1,r2,hM,hr,wrap_i64,List.length_map,List.map_cons,List.length_cons]
    exact ⟨⟨Nat.le_refl _,by omega⟩,⟨k + 1,by omega⟩,⟨⟨by simp,by rw [hst,List.length_append]; rfl⟩,by rw [hst,List.map_append,List.take_of_length_le (by simp)]; rfl⟩,by show 16 - (k + 1) < 16 - k; omega⟩
  ·have hlt':¬ (k:Int) + 1 ≤ 16:=by omega
   obtain rfl:k = 16:=by omega
   simp -implicitDefEqProofs (maxSteps:=600000) (disch:=(first | omega | decide)) only [go_sem,↓reduceIte,seval,hlt',List.length_map]
   exact ⟨Nat.le_refl _,by rw [List.take_of_length_le (by simp)]; rfl⟩
noncomputable def K14q:Tab:=K14p.add 173 (entry (fun (v:Int × List Known × List Known)=>[.int .i64 v.1,.slc (v.2.1.map Known.enc),.slc (v.2.2.map Known.enc)]) (fun v=>opOK v.1 ∧ midK v.2.1 ∧ midK v.2.2) (fun v=>.slc ((opK v.1 v.2.1 v.2.2).map Known.enc)))
theorem K14q_ok:TabOK Tryz.prog K14q:=K14p_ok.add (callable_of Tryz.func173 (by kernel_rfl) (by kernel_rfl)) (entry_ok fun v h=>c_ref14_Make v.1 v.2.1 v.2.2 h.1 h.2.1 h.2.2)
@[go_sem] theorem K14q_old {g:FuncId} {xs:List A} (h:g ≠ 173):K14q.f g xs = K14p.f g xs:=Tab.add_ne h
@[go_sem] theorem K14q_eff {g:FuncId}:K14q.eff g = false:=rfl
@[go_sem] theorem K14q_ords {n:Nat}:K14q.ords n = []:=rfl
theorem K14q_ref14_Make (v:Int × List Known × List Known) (h:opOK v.1 ∧ midK v.2.1 ∧ midK v.2.2):K14q.f 173 [.int .i64 v.1,.slc (v.2.1.map Known.enc),.slc (v.2.2.map Known.enc)] = some (.slc ((opK v.1 v.2.1 v.2.2).map Known.enc)):=
 (Tab.add_eq:K14q.f 173 [.int .i64 v.1,.slc (v.2.1.map Known.enc),.slc (v.2.2.map Known.enc)] = (entry (fun (v:Int × List Known × List Known)=>[.int .i64 v.1,.slc (v.2.1.map Known.enc),.slc (v.2.2.map Known.enc)]) (fun v=>opOK v.1 ∧ midK v.2.1 ∧ midK v.2.2) (fun v=>.slc ((opK v.1 v.2.1 v.2.2).map Known.enc))) [.int .i64 v.1,.slc (v.2.1.map Known.enc),.slc (v.2.2.map Known.enc)]).trans (entry_eq (fun i j h=>by first | (cases i; cases j; rfl; done) | simpa [Prod.ext_iff,and_assoc] using h | (simp at h; omega) | (simp at h; exact Prod.ext h.1 (Prod.ext h.2.1 (by omega)))) v h)
theorem k_ref14_Make {op:Int} {a b:List Known} (ho:opOK op) (ha:midK a) (hb:midK b):K14q.f 173 [.int .i64 op,.slc (a.map Known.enc),.slc (b.map Known.enc)] = some (.slc ((opK op a b).map Known.enc)):=K14q_ref14_Make (op,a,b) ⟨ho,ha,hb⟩
theorem mid_nil:midK []:=⟨⟨by simp,by simp [sumK]⟩,fun n=>by simp [runsK]⟩
theorem opP1_nil (x:List Run):opP 1 x [] = hasL13 x:=by
 funext n; simp [opP,opF,hasL13]
theorem opK1_nil (s:List Known):opK 1 s [] = ofK s:=setT_congr fun n _=>by simp only [runsK,opP1_nil]
theorem opOK1:opOK 1:=.inl rfl
theorem opOK3:opOK 3:=.inr (.inr rfl)
theorem ok_ref14_Of:codeOK Tryz.prog K14q Tryz.f129.ntmps (Tryz.f129.body.getD .skip) = true:=by kernel_rfl
theorem c_ref14_Of (s:List Known) (hs:midK s):CallA Tryz.prog 129 [.slc (s.map Known.enc)] (· = .slc ((ofK s).map Known.enc)):=by
 refine callA_of_body K14q_ok mixed Tryz.func129 rfl (Nat.le_of_ble_eq_true rfl) ok_ref14_Of ?_
 unfold Tryz.f129
 have h:=k_ref14_Make opOK1 hs mid_nil
 rw [opK1_nil,List.map_nil] at h
 simp -implicitDefEqProofs (maxSteps:=600000) (disch:=(first | omega | decide)) only [go_sem,↓reduceIte,seval,h]
noncomputable def K14r:Tab:=K14q.add 129 (entry (fun (s:List Known)=>[.slc (s.map Known.enc)]) (fun s=>midK s) (fun s=>.slc ((ofK s).map Known.enc)))
theorem K14r_ok:TabOK Tryz.prog K14r:=K14q_ok.add (callable_of Tryz.func129 (by kernel_rfl) (by kernel_rfl)) (entry_ok fun s h=>c_ref14_Of s h)
@[go_sem] theorem K14r_old {g:FuncId} {xs:List A} (h:g ≠ 129):K14r.f g xs = K14q.f g xs:=Tab.add_ne h
@[go_sem] theorem K14r_eff {g:FuncId}:K14r.eff g = false:=rfl
@[go_sem] theorem K14r_ords {n:Nat}:K14r.ords n = []:=rfl
theorem K14r_ref14_Of (s:List Known) (h:midK s):K14r.f 129 [.slc (s.map Known.enc)] = some (.slc ((ofK s).map Known.enc)):=
 (Tab.add_eq:K14r.f 129 [.slc (s.map Known.enc)] = (entry (fun (s:List Known)=>[.slc (s.map Known.enc)]) (fun s=>midK s) (fun s=>.slc ((ofK s).map Known.enc))) [.slc (s.map Known.enc)]).trans (entry_eq (fun i j h=>by first | (cases i; cases j; rfl; done) | simpa [Prod.ext_iff,and_assoc] using h | (simp at h; omega) | (simp at h; exact Prod.ext h.1 (Prod.ext h.2.1 (by omega)))) s h)
theorem k_ref14_Of {s:List Known} (h:midK s):K14r.f 129 [.slc (s.map Known.enc)] = some (.slc ((ofK s).map Known.enc)):=K14r_ref14_Of s h
def oneS (l:List Ver):List Known:=(l.filter rightV).map fun v=>⟨v.r,[⟨v.c,v.c⟩]⟩
theorem oneS_append (l m:List Ver):oneS (l ++ m) = oneS l ++ oneS m:=by simp [oneS]
theorem oneS_len (l:List Ver):(oneS l).length ≤ l.length ∧ sumK (oneS l) ≤ l.length:=by
 induction l with
 | nil=>simp [oneS,sumK]
 | cons v l ih=>
  have e:oneS (v :: l) = oneS [v] ++ oneS l:=by rw [← oneS_append]; rfl
  rw [e,sumK_append,List.length_append,List.length_cons]
  have:(oneS [v]).length ≤ 1 ∧ sumK (oneS [v]) ≤ 1:=by
   unfold oneS
   by_cases h:rightV v = true
   ·simp [h,sumK]
   ·simp [h,sumK]
  omega
theorem oneS_snoc {l:List Ver} {k:Nat} (h:k < l.length):oneS (l.take (k + 1)) = oneS (l.take k) ++ (if rightV l[k] = true then [⟨l[k].r,[⟨l[k].c,l[k].c⟩]⟩] else []):=by
 rw [← List.take_append_getElem h,oneS_append]
 congr 1
 unfold oneS
 by_cases h:rightV l[k] = true
 ·simp [h]
 ·simp [h]
theorem opK_of (t u:List Known):opK 1 (ofK t) u = ofK (t ++ u):=setT_congr fun n h=>by
 have e:opP 1 (runsK (ofK t) n) (runsK u n) = hasL13 (runsK (t ++ u) n):=by
  funext c
  unfold ofK
  rw [setT_runs,if_pos h,runsK_append,has_append]
  show opF 1 _ _ = _
  rw [setR_has (isR_has _)]; rfl
 simp only [e]
theorem ver_get {l:List Ver} {k:Nat} (h:k < l.length):(l.map Ver.enc)[k]? = some (.agg [.int .i64 l[k].r,.int .i64 l[k].c]):=by
 rw [List.getElem?_map,List.getElem?_eq_getElem h]; rfl
theorem mid_one (n c:Int):midK [⟨n,[⟨c,c⟩]⟩]:=mid_of (by simp) (by simp [sumK])
theorem ok_ref14_Add:codeOK Tryz.prog K14r Tryz.f157.ntmps (Tryz.f157.body.getD .skip) = true:=by kernel_rfl
theorem c_ref14_Add (s:List Known) (l:List Ver) (hs:midK s) (hl:sumK s + l.length ≤ 50000):CallA Tryz.prog 157 [.slc (s.map Known.enc),.slc (l.map Ver.enc)] (· = .slc ((ofK (s ++ oneS l)).map Known.enc)):=by
 refine callA_of_body K14r_ok mixed Tryz.func157 rfl (Nat.le_of_ble_eq_true rfl) ok_ref14_Add ?_
 unfold Tryz.f157
 have h0:=k_ref14_Of hs
 simp -implicitDefEqProofs (maxSteps:=600000) (disch:=(first | omega | decide)) only [go_sem,↓reduceIte,seval,h0,List.length_map]
 refine wpA_loop [0,1] (ι:={k:Nat // k ≤ l.length}) (fun p=>[(6,.int .i64 p.1),(5,.slc ((ofK (s ++ oneS (l.take p.1))).map Known.enc))]) (fun _=>[]) (fun p=>l.length - p.1) ⟨0,by omega⟩ (Nat.zero_le _) ?_ ?_
 ·simp -implicitDefEqProofs (maxSteps:=600000) (disch:=(first | omega | decide)) only [go_sem,↓reduceIte,seval]
  simp [oneS]
 ·rintro ⟨k,hk⟩
  simp only
  by_cases hlt:k < l.length
  ·have hlt':(k:Int) < (l.length:Int):=by omega
   have e1:=ver_get hlt
   have hsn:=oneS_snoc hlt
   have hol:=oneS_len (l.take k)
   rw [List.length_take] at hol
   have hm:=mid_ofK (s:=s ++ oneS (l.take k)) (by rw [sumK_append]; omega)
   generalize hx:l[k] = x at *
   obtain ⟨r,c⟩:=x
   simp only at hsn
   cases h1:rightV ⟨r,c⟩ with
   | false=>
    rw [h1,if_neg (by simp),List.append_nil] at hsn
    simp -implicitDefEqProofs (maxSteps:=600000) (disch:=(first | omega | decide)) only [go_sem,↓reduceIte,seval,hlt',e1,h1,wrap_i64,List.length_map]
    exact ⟨⟨k + 1,hlt⟩,⟨by simp,by rw [hsn]⟩,by show l.length - (k + 1) < l.length - k; omega⟩
   | true=>
    rw [h1,if_pos rfl] at hsn
    have hM:=k_ref14_Make opOK1 hm (mid_one r c)
    rw [opK_of,List.append_assoc,← hsn] at hM
    simp only [List.map_cons,List.map_nil,Known.enc_eq,Run.enc_eq] at hM
    simp -implicitDefEqProofs (maxSteps:=600000) (disch:=(first | omega | decide)) only [go_sem,↓reduceIte,seval,hlt',e1,h1,hM,wrap_i64,List.length_map,List.map_cons,List.map_nil]
    exact ⟨⟨k + 1,hlt⟩,⟨by simp,rfl⟩,by show l.length - (k + 1) < l.length - k; omega⟩
  ·have hlt':¬ (k:Int) < (l.length:Int):=by omega
   rw [List.take_of_length_le (by omega)] at *
   simp -implicitDefEqProofs (maxSteps:=600000) (disch:=(first | omega | decide)) only [go_sem,↓reduceIte,seval,hlt',List.length_map]
end Go.Proofs.YtjfdlpagcgpaoaaGreat
namespace Go.Proofs.YtjfdlpagcgpaoaaGreat
open Go.Abs
set_option linter.unusedSimpArgs false
set_option linter.unusedVariables false
set_option maxRecDepth 20000
set_option maxHeartbeats 8000000
noncomputable def K14s:Tab:=K14r
theorem K14s_ok:TabOK Tryz.prog K14s:=K14r_ok
@[go_sem] theorem K14s_old {g:FuncId} {xs:List A}:K14s.f g xs = K14r.f g xs:=rfl
noncomputable def K14t:Tab:=K14s.add 180 (entry (fun (s:List Known)=>[.slc (s.map Known.enc)]) (fun s=>smallK s) (fun s=>.slc ((ofK s).map Known.enc)))
theorem K14t_ok:TabOK Tryz.prog K14t:=K14s_ok.add (callable_of Tryz.func180 (by kernel_rfl) (by kernel_rfl)) (entry_ok fun s h=>c_vset_Of s h)
@[go_sem] theorem K14t_old {g:FuncId} {xs:List A} (h:g ≠ 180):K14t.f g xs = K14s.f g xs:=Tab.add_ne h
theorem K14t_vset_Of (s:List Known) (h:smallK s):K14t.f 180 [.slc (s.map Known.enc)] = some (.slc ((ofK s).map Known.enc)):=
 (Tab.add_eq:K14t.f 180 [.slc (s.map Known.enc)] = (entry (fun (s:List Known)=>[.slc (s.map Known.enc)]) (fun s=>smallK s) (fun s=>.slc ((ofK s).map Known.enc))) [.slc (s.map Known.enc)]).trans (entry_eq (fun i j h=>by first | (cases i; cases j; rfl; done) | simpa [Prod.ext_iff,and_assoc] using h | (simp at h; omega) | (simp at h; exact Prod.ext h.1 (Prod.ext h.2.1 (by omega)))) s h)
noncomputable def K14u:Tab:=K14t
theorem K14u_ok:TabOK Tryz.prog K14u:=K14t_ok
@[go_sem] theorem K14u_old {g:FuncId} {xs:List A}:K14u.f g xs = K14t.f g xs:=rfl
noncomputable def K14v:Tab:=K14u
theorem K14v_ok:TabOK Tryz.prog K14v:=K14u_ok
@[go_sem] theorem K14v_old {g:FuncId} {xs:List A}:K14v.f g xs = K14u.f g xs:=rfl
noncomputable def K14w:Tab:=K14v
theorem K14w_ok:TabOK Tryz.prog K14w:=K14v_ok
@[go_sem] theorem K14w_old {g:FuncId} {xs:List A}:K14w.f g xs = K14v.f g xs:=rfl
@[go_sem] theorem K14w_eff {g:FuncId}:K14w.eff g = false:=rfl
@[go_sem] theorem K14w_ords {n:Nat}:K14w.ords n = []:=rfl
theorem k_vset_Of {s:List Known} (h:smallK s):K14t.f 180 [.slc (s.map Known.enc)] = some (.slc ((ofK s).map Known.enc)):=K14t_vset_Of s h
theorem ok_vset_Same:codeOK Tryz.prog K14w Tryz.f137.ntmps (Tryz.f137.body.getD .skip) = true:=by kernel_rfl
theorem c_vset_Same (a b:List Known) (ha:smallK a) (hb:smallK b) (ha':smallK (ofK a)) (hb':smallK (ofK b)):CallA Tryz.prog 137 [.slc (a.map Known.enc),.slc (b.map Known.enc)] (· = .bool (sameK (ofK a) (ofK b))):=by
 refine callA_of_body K14w_ok mixed Tryz.func137 rfl (Nat.le_of_ble_eq_true rfl) ok_vset_Same ?_
 unfold Tryz.f137
 have h1:=k_vset_Of ha
 have h2:=k_vset_Of hb
 have h3:=k_EqualFunc ha' hb'
 simp -implicitDefEqProofs (maxSteps:=600000) (disch:=(first | omega | decide)) only [go_sem,↓reduceIte,seval,h1,h2,h3]
theorem c_ind {n:Int} (h:repOK n = true):((n - 1).toNat:Int) + 1 = n:=by rw [repOK_iff] at h; omega
theorem ok_vset_Most:codeOK Tryz.prog K14w Tryz.f138.ntmps (Tryz.f138.body.getD .skip) = true:=by kernel_rfl
theorem c_vset_Most (s:List Known) (n:Int) (hs:smallK s):CallA Tryz.prog 138 [.slc (s.map Known.enc),.int .i64 n] (· = .int .i64 (if repOK n = true then mostR (setR (hasL13 (runsK s n))) else 0)):=by
 refine callA_of_body K14w_ok mixed Tryz.func138 rfl (Nat.le_of_ble_eq_true rfl) ok_vset_Most ?_
 unfold Tryz.f138
 cases h1:repOK n with
 | false=>simp -implicitDefEqProofs (maxSteps:=600000) (disch:=(first | omega | decide)) only [go_sem,↓reduceIte,seval,h1]
 | true=>
  have h:=repOK_iff.1 h1
  have h2:=k_vset_fill hs
  have g1:=tab_head (tabL_get s (i:=(n - 1).toNat) (by omega))
  rw [c_ind h1] at g1
  have hl:=runsK_len s n
  have hs':=hs.2
  have c1:(0:Int) ≤ n - 1:=by omega
  have c2:n - 1 < 16:=by omega
  simp -implicitDefEqProofs (maxSteps:=600000) (disch:=(first | omega | decide)) only [go_sem,↓reduceIte,seval,h1,h2,g1,c1,c2,wrap_i64,List.length_map]
end Go.Proofs.YtjfdlpagcgpaoaaGreat
namespace Go.Proofs.YtjfdlpagcgpaoaaGreat
open Go.Abs
set_option linter.unusedSimpArgs false
set_option linter.unusedVariables false
set_option maxRecDepth 20000
set_option maxHeartbeats 8000000
def goodT (s:List Known) (l:List Ver) (k:Nat) (L:List (List Run)):Prop:=
 L.length = 16 ∧ ∀ i:Nat,i < 16 → ∃ x,L[i]? = some x ∧ x.length ≤ sumK s + k ∧ ∀ c,hasL13 x c = hasL13 (runsK (s ++ oneS (l.take k)) ((i:Int) + 1)) c
theorem goodT_zero (s:List Known) (l:List Ver):goodT s l 0 (tabL s):=⟨tabL_len s,fun i hi=>⟨_,tabL_get s hi,runsK_len _ _,fun c=>by simp [oneS]⟩⟩
theorem goodT_skip {s:List Known} {l:List Ver} {k:Nat} {L:List (List Run)} (h:goodT s l k L) (hk:k < l.length) (hr:rightV l[k] = false):goodT s l (k + 1) L:=⟨h.1,fun i hi=>by
 obtain ⟨x,h1,h2,h3⟩:=h.2 i hi
 refine ⟨x,h1,by omega,fun c=>?_⟩
 rw [oneS_snoc hk,hr,if_neg (by simp),List.append_nil]; exact h3 c⟩
theorem goodT_step {s:List Known} {l:List Ver} {k:Nat} {L:List (List Run)} (h:goodT s l k L) (hk:k < l.length) (hr:rightV l[k] = true) {x:List Run} (hx:L[(l[k].r - 1).toNat]? = some x) :
 goodT s l (k + 1) (L.set (l[k].r - 1).toNat (setR (hasL13 (x ++ oneL [l[k].c])))):=⟨by rw [List.length_set]; exact h.1,fun i hi=>by
 obtain ⟨y,h1,h2,h3⟩:=h.2 i hi
 have hrr:1 ≤ l[k].r:=by
  have:=hr; simp [rightV] at this; omega
 rw [oneS_snoc hk,hr,if_pos rfl,← List.append_assoc]
 rw [List.getElem?_set,h.1]
 by_cases e:(l[k].r - 1).toNat = i
 ·rw [if_pos e,if_pos (by omega)]
  rw [e,h1] at hx
  obtain rfl:=Option.some.inj hx
  refine ⟨_,rfl,?_,fun c=>?_⟩
  ·have:=setR_has_len (y ++ oneL [l[k].c])
   simp only [oneL,List.length_append,List.length_map,List.length_cons,List.length_nil] at this
   simp only [oneL] at *
   omega
  ·have e2:l[k].r = (i:Int) + 1:=by omega
   rw [setR_has (isR_has _),has_append,h3,runsK_append (s ++ oneS (l.take k)),has_append (runsK (s ++ oneS (l.take k)) _)]
   congr 1
   simp only [runsK,e2,if_true,List.append_nil]; rfl
 ·rw [if_neg e]
  refine ⟨y,h1,by omega,fun c=>?_⟩
  rw [h3,runsK_append _ [_],has_append]
  have e2:¬ l[k].r = (i:Int) + 1:=by omega
  simp only [runsK,e2,if_false,has_nil,Bool.or_false]⟩
theorem goodT_set {s:List Known} {l:List Ver} {L:List (List Run)} (h:goodT s l l.length L):setL L = ofK (s ++ oneS l):=setT_congr fun n hn=>by
 have hn':=repOK_iff.1 hn
 obtain ⟨x,h1,h2,h3⟩:=h.2 (n - 1).toNat (by omega)
 rw [List.take_length,c_ind hn] at h3
 have e:getL L n = x:=by
  unfold getL; rw [List.getD_eq_getElem?_getD,h1]; rfl
 have e2:hasL13 x = hasL13 (runsK (s ++ oneS l) n):=funext h3
 rw [e,e2]
theorem ok_vset_Add:codeOK Tryz.prog K14w Tryz.f222.ntmps (Tryz.f222.body.getD .skip) = true:=by kernel_rfl
theorem c_vset_Add (s:List Known) (l:List Ver) (hs:smallK s) (hl:sumK s + l.length ≤ 1000000):CallA Tryz.prog 222 [.slc (s.map Known.enc),.slc (l.map Ver.enc)] (· = .slc ((ofK (s ++ oneS l)).map Known.enc)):=by
 refine callA_of_body K14w_ok mixed Tryz.func222 rfl (Nat.le_of_ble_eq_true rfl) ok_vset_Add ?_
 unfold Tryz.f222
 have h2:=k_vset_fill hs
 have t16:=tabL_len s
 have pt:=fun L=>pure_tab L
 simp -implicitDefEqProofs (maxSteps:=600000) (disch:=(first | omega | decide)) only [go_sem,↓reduceIte,seval,h2,t16,List.length_map,List.append_nil]
 have hs':=hs.2
 have hu:=fun m (L:List (List Run))=>under_tab (m:=m) L
 have hle:=fun m (L:List (List Run))=>leL_self (hu m L)
 refine wpA_loop [0,1,4,5,10,11] (ι:={p:Nat × List (List Run) // p.1 ≤ l.length ∧ goodT s l p.1 p.2}) (fun p=>[(12,.int .i64 p.1.1)]) (fun p=>[(0,.box (p.1.2.map slcR))]) (fun p=>l.length - p.1.1) ⟨(0,tabL s),Nat.zero_le _,goodT_zero s l⟩ (Nat.zero_le _) ?_ ?_
 ·simp -implicitDefEqProofs (maxSteps:=600000) (disch:=(first | omega | decide)) only [go_sem,↓reduceIte,seval,hle]
 ·rintro ⟨⟨k,L⟩,hk,hg⟩
  simp only at hk hg ⊢
  have tl:(L.map slcR).length = 16:=by rw [List.length_map,hg.1]
  by_cases hlt:k < l.length
  ·have hlt':(k:Int) < (l.length:Int):=by omega
   have e1:=ver_get hlt
   have hskip:=goodT_skip hg hlt
   have hstep:=fun hr x hx=>goodT_step (x:=x) hg hlt hr hx
   generalize hv:l[k] = v at *
   obtain ⟨r,c⟩:=v
   simp only at hskip hstep
   cases h1:rightV ⟨r,c⟩ with
   | false=>
    simp -implicitDefEqProofs (maxSteps:=600000) (disch:=(first | omega | decide)) only [go_sem,↓reduceIte,seval,hlt',e1,h1,hle,wrap_i64,List.length_map]
    exact ⟨⟨(k + 1,L),hlt,hskip h1⟩,⟨by simp,hle _ _⟩,by show l.length - (k + 1) < l.length - k; omega⟩
   | true=>
    have hr:1 ≤ r ∧ r ≤ 16 ∧ 1 ≤ c ∧ c ≤ 1099511627776:=by simpa [rightV,and_assoc] using h1
    obtain ⟨x,hx,hxl,_⟩:=hg.2 (r - 1).toNat (by omega)
    have g1:=tab_head hx
    have hA:=l_counts_Add (a:=x) (b:=[c]) ⟨by omega,by simp⟩
    simp only [List.map_cons,List.map_nil] at hA
    have c1:(0:Int) ≤ r - 1:=by omega
    have c2:r - 1 < 16:=by omega
    have sp:spliceA (L.map slcR) ((r - 1).toNat * 1) [.slc ((setR (hasL13 (x ++ oneL [c]))).map Run.enc)] = (L.set (r - 1).toNat (setR (hasL13 (x ++ oneL [c])))).map slcR:=by
     rw [Nat.mul_one,splice_one (by rw [tl]; omega),List.map_set]; rfl
    simp -implicitDefEqProofs (maxSteps:=600000) (disch:=(first | omega | decide)) only [go_sem,↓reduceIte,seval,hlt',e1,h1,c1,c2,g1,hA,sp,tl,hle,wrap_i64,List.length_map]
    exact ⟨by omega,⟨(k + 1,_),hlt,hstep h1 x hx⟩,⟨by simp,hle _ _⟩,by show l.length - (k + 1) < l.length - k; omega⟩
  ·have hlt':¬ (k:Int) < (l.length:Int):=by omega
   obtain rfl:k = l.length:=by omega
   have tk:=take_tab hg.1
   have hst:=k_table_set (L:=L) hg.1 (fun x hx=>by
    obtain ⟨i,hi,rfl⟩:=List.mem_iff_getElem.1 hx
    rw [hg.1] at hi
    obtain ⟨y,hy,hyl,_⟩:=hg.2 i hi
    rw [List.getElem?_eq_getElem (by rw [hg.1]; exact hi)] at hy
    rw [Option.some.inj hy]; omega)
   rw [goodT_set hg] at hst
   have pt:=pure_tab L
   have hvt:=fun H=>view_tab (H:=H) L
   have hml:=fun n=>mem_tab (n:=n) L
   simp -implicitDefEqProofs (maxSteps:=600000) (disch:=(first | omega | decide)) only [go_sem,↓reduceIte,seval,hlt',tl,tk,hst,pt,hvt,hml,List.length_map]
end Go.Proofs.YtjfdlpagcgpaoaaGreat
namespace Go.Proofs.YtjfdlpagcgpaoaaGreat
open Go.Abs
set_option linter.unusedSimpArgs false
set_option linter.unusedVariables false
set_option maxRecDepth 20000
set_option maxHeartbeats 8000000
noncomputable def L14a:Tab:=K14w
theorem L14a_ok:TabOK Tryz.prog L14a:=K14w_ok
@[go_sem] theorem L14a_old {g:FuncId} {xs:List A}:L14a.f g xs = K14w.f g xs:=rfl
noncomputable def L14b:Tab:=L14a.add 137 (entry (fun (v:List Known × List Known)=>[.slc (v.1.map Known.enc),.slc (v.2.map Known.enc)]) (fun v=>smallK v.1 ∧ smallK v.2 ∧ smallK (ofK v.1) ∧ smallK (ofK v.2)) (fun v=>.bool (sameK (ofK v.1) (ofK v.2))))
theorem L14b_ok:TabOK Tryz.prog L14b:=L14a_ok.add (callable_of Tryz.func137 (by kernel_rfl) (by kernel_rfl)) (entry_ok fun v h=>c_vset_Same v.1 v.2 h.1 h.2.1 h.2.2.1 h.2.2.2)
@[go_sem] theorem L14b_old {g:FuncId} {xs:List A} (h:g ≠ 137):L14b.f g xs = L14a.f g xs:=Tab.add_ne h
theorem L14b_vset_Same (v:List Known × List Known) (h:smallK v.1 ∧ smallK v.2 ∧ smallK (ofK v.1) ∧ smallK (ofK v.2)):L14b.f 137 [.slc (v.1.map Known.enc),.slc (v.2.map Known.enc)] = some (.bool (sameK (ofK v.1) (ofK v.2))):=
 (Tab.add_eq:L14b.f 137 [.slc (v.1.map Known.enc),.slc (v.2.map Known.enc)] = (entry (fun (v:List Known × List Known)=>[.slc (v.1.map Known.enc),.slc (v.2.map Known.enc)]) (fun v=>smallK v.1 ∧ smallK v.2 ∧ smallK (ofK v.1) ∧ smallK (ofK v.2)) (fun v=>.bool (sameK (ofK v.1) (ofK v.2)))) [.slc (v.1.map Known.enc),.slc (v.2.map Known.enc)]).trans (entry_eq (fun i j h=>by first | (cases i; cases j; rfl; done) | simpa [Prod.ext_iff,and_assoc] using h | (simp at h; omega) | (simp at h; exact Prod.ext h.1 (Prod.ext h.2.1 (by omega)))) v h)
noncomputable def L14c:Tab:=L14b.add 138 (entry (fun (v:List Known × Int)=>[.slc (v.1.map Known.enc),.int .i64 v.2]) (fun v=>smallK v.1) (fun v=>.int .i64 (if repOK v.2 = true then mostR (setR (hasL13 (runsK v.1 v.2))) else 0)))
theorem L14c_ok:TabOK Tryz.prog L14c:=L14b_ok.add (callable_of Tryz.func138 (by kernel_rfl) (by kernel_rfl)) (entry_ok fun v h=>c_vset_Most v.1 v.2 h)
@[go_sem] theorem L14c_old {g:FuncId} {xs:List A} (h:g ≠ 138):L14c.f g xs = L14b.f g xs:=Tab.add_ne h
theorem L14c_vset_Most (v:List Known × Int) (h:smallK v.1):L14c.f 138 [.slc (v.1.map Known.enc),.int .i64 v.2] = some (.int .i64 (if repOK v.2 = true then mostR (setR (hasL13 (runsK v.1 v.2))) else 0)):=
 (Tab.add_eq:L14c.f 138 [.slc (v.1.map Known.enc),.int .i64 v.2] = (entry (fun (v:List Known × Int)=>[.slc (v.1.map Known.enc),.int .i64 v.2]) (fun v=>smallK v.1) (fun v=>.int .i64 (if repOK v.2 = true then mostR (setR (hasL13 (runsK v.1 v.2))) else 0))) [.slc (v.1.map Known.enc),.int .i64 v.2]).trans (entry_eq (fun i j h=>by first | (cases i; cases j; rfl; done) | simpa [Prod.ext_iff,and_assoc] using h | (simp at h; omega) | (simp at h; exact Prod.ext h.1 (Prod.ext h.2.1 (by omega)))) v h)
noncomputable def L14d:Tab:=L14c
theorem L14d_ok:TabOK Tryz.prog L14d:=L14c_ok
@[go_sem] theorem L14d_old {g:FuncId} {xs:List A}:L14d.f g xs = L14c.f g xs:=rfl
noncomputable def L14e:Tab:=L14d.add 222 (entry (fun (v:List Known × List Ver)=>[.slc (v.1.map Known.enc),.slc (v.2.map Ver.enc)]) (fun v=>smallK v.1 ∧ sumK v.1 + v.2.length ≤ 1000000) (fun v=>.slc ((ofK (v.1 ++ oneS v.2)).map Known.enc)))
theorem L14e_ok:TabOK Tryz.prog L14e:=L14d_ok.add (callable_of Tryz.func222 (by kernel_rfl) (by kernel_rfl)) (entry_ok fun v h=>c_vset_Add v.1 v.2 h.1 h.2)
@[go_sem] theorem L14e_old {g:FuncId} {xs:List A} (h:g ≠ 222):L14e.f g xs = L14d.f g xs:=Tab.add_ne h
theorem L14e_vset_Add (v:List Known × List Ver) (h:smallK v.1 ∧ sumK v.1 + v.2.length ≤ 1000000):L14e.f 222 [.slc (v.1.map Known.enc),.slc (v.2.map Ver.enc)] = some (.slc ((ofK (v.1 ++ oneS v.2)).map Known.enc)):=
 (Tab.add_eq:L14e.f 222 [.slc (v.1.map Known.enc),.slc (v.2.map Ver.enc)] = (entry (fun (v:List Known × List Ver)=>[.slc (v.1.map Known.enc),.slc (v.2.map Ver.enc)]) (fun v=>smallK v.1 ∧ sumK v.1 + v.2.length ≤ 1000000) (fun v=>.slc ((ofK (v.1 ++ oneS v.2)).map Known.enc))) [.slc (v.1.map Known.enc),.slc (v.2.map Ver.enc)]).trans (entry_eq (fun i j h=>by first | (cases i; cases j; rfl; done) | simpa [Prod.ext_iff,and_assoc] using h | (simp at h; omega) | (simp at h; exact Prod.ext h.1 (Prod.ext h.2.1 (by omega)))) v h)
noncomputable def L14f:Tab:=L14e.add 157 (entry (fun (v:List Known × List Ver)=>[.slc (v.1.map Known.enc),.slc (v.2.map Ver.enc)]) (fun v=>midK v.1 ∧ sumK v.1 + v.2.length ≤ 50000) (fun v=>.slc ((ofK (v.1 ++ oneS v.2)).map Known.enc)))
theorem L14f_ok:TabOK Tryz.prog L14f:=L14e_ok.add (callable_of Tryz.func157 (by kernel_rfl) (by kernel_rfl)) (entry_ok fun v h=>c_ref14_Add v.1 v.2 h.1 h.2)
@[go_sem] theorem L14f_old {g:FuncId} {xs:List A} (h:g ≠ 157):L14f.f g xs = L14e.f g xs:=Tab.add_ne h
theorem L14f_ref14_Add (v:List Known × List Ver) (h:midK v.1 ∧ sumK v.1 + v.2.length ≤ 50000):L14f.f 157 [.slc (v.1.map Known.enc),.slc (v.2.map Ver.enc)] = some (.slc ((ofK (v.1 ++ oneS v.2)).map Known.enc)):=
 (Tab.add_eq:L14f.f 157 [.slc (v.1.map Known.enc),.slc (v.2.map Ver.enc)] = (entry (fun (v:List Known × List Ver)=>[.slc (v.1.map Known.enc),.slc (v.2.map Ver.enc)]) (fun v=>midK v.1 ∧ sumK v.1 + v.2.length ≤ 50000) (fun v=>.slc ((ofK (v.1 ++ oneS v.2)).map Known.enc))) [.slc (v.1.map Known.enc),.slc (v.2.map Ver.enc)]).trans (entry_eq (fun i j h=>by first | (cases i; cases j; rfl; done) | simpa [Prod.ext_iff,and_assoc] using h | (simp at h; omega) | (simp at h; exact Prod.ext h.1 (Prod.ext h.2.1 (by omega)))) v h)
theorem l_Same {a b:List Known} (ha:smallK a) (hb:smallK b) (ha':smallK (ofK a)) (hb':smallK (ofK b)):L14b.f 137 [.slc (a.map Known.enc),.slc (b.map Known.enc)] = some (.bool (sameK (ofK a) (ofK b))):=L14b_vset_Same (a,b) ⟨ha,hb,ha',hb'⟩
theorem l_Most {s:List Known} {n:Int} (h:smallK s):L14c.f 138 [.slc (s.map Known.enc),.int .i64 n] = some (.int .i64 (if repOK n = true then mostR (setR (hasL13 (runsK s n))) else 0)):=L14c_vset_Most (s,n) h
theorem l_Add {s:List Known} {l:List Ver} (h:smallK s) (h':sumK s + l.length ≤ 1000000):L14e.f 222 [.slc (s.map Known.enc),.slc (l.map Ver.enc)] = some (.slc ((ofK (s ++ oneS l)).map Known.enc)):=L14e_vset_Add (s,l) ⟨h,h'⟩
theorem l_rAdd {s:List Known} {l:List Ver} (h:midK s) (h':sumK s + l.length ≤ 50000):L14f.f 157 [.slc (s.map Known.enc),.slc (l.map Ver.enc)] = some (.slc ((ofK (s ++ oneS l)).map Known.enc)):=L14f_ref14_Add (s,l) ⟨h,h'⟩
theorem fits_knowns {x:A} (h:fits (.rows [.int .i64,.rows [.int .i64,.int .i64]]) x):∃ l:List Known,x = .slc (l.map Known.enc) ∧ l.length ≤ maxLen ∧ ∀ k ∈ l,k.rs.length ≤ maxLen:=by
 simp only [fits] at h
 obtain ⟨es,rfl,hl,he⟩:=h
 obtain ⟨l,rfl,hk⟩:=list_of (f:=Known.enc) (P:=fun k=>k.rs.length ≤ maxLen) (es:=es) (fun e hx=>by
  obtain ⟨ys,rfl,hy⟩:=he e hx
  simp only [fitsL] at hy
  obtain ⟨y,zs,rfl,h1,y2,zs2,rfl,h2,rfl⟩:=hy
  simp only [fits] at h1
  obtain ⟨n,rfl,_⟩:=h1
  obtain ⟨rs,rfl,hr⟩:=fits_runs h2
  exact ⟨⟨n,rs⟩,rfl,hr⟩)
 exact ⟨l,rfl,by simpa using hl,hk⟩
theorem long_small {s:List Known} {m:Nat} (h:longK s m = false):s.length ≤ m ∧ sumK s ≤ m * m:=by
 unfold longK at h
 rw [Bool.or_eq_false_iff] at h
 obtain ⟨h1,h2⟩:=h
 have h1':s.length ≤ m:=by have:=of_decide_eq_false h1; omega
 refine ⟨h1',?_⟩
 have h3:∀ k ∈ s,k.rs.length ≤ m:=fun k hk=>by
  rw [List.any_eq_false] at h2
  have:=h2 k hk
  simp at this; omega
 have h4:∀ l:List Known,(∀ k ∈ l,k.rs.length ≤ m) → sumK l ≤ l.length * m:=fun l=>by
  induction l with
  | nil=>intro _; simp [sumK]
  | cons k l ih=>
   intro hk
   have a:=ih fun q hq=>hk q (by simp [hq])
   have b:=hk k (by simp)
   have e:sumK (k :: l) = k.rs.length + sumK l:=by unfold sumK; rw [List.map_cons,List.sum_cons]
   rw [e,List.length_cons,Nat.succ_mul]; omega
 exact Nat.le_trans (h4 s h3) (Nat.mul_le_mul_right m h1')
theorem ofK_right (s:List Known):rightK (ofK s) = true:=setT_right fun n=>setR_right _
noncomputable def L14g:Tab:=L14f
theorem L14g_ok:TabOK Tryz.prog L14g:=L14f_ok
@[go_sem] theorem L14g_old {g:FuncId} {xs:List A}:L14g.f g xs = L14f.f g xs:=rfl
end Go.Proofs.YtjfdlpagcgpaoaaGreat
namespace Go.Proofs.YtjfdlpagcgpaoaaGreat
open Go.Abs
set_option linter.unusedSimpArgs false
set_option linter.unusedVariables false
set_option maxRecDepth 20000
set_option maxHeartbeats 8000000
def hk (s:List Known) (n c:Int):Bool:=hasL13 (runsK s n) c
theorem hk_op {op:Int} {a b:List Known} {n:Int} (h:repOK n = true) (c:Int):hk (opK op a b) n c = opF op (hk a n c) (hk b n c):=by
 unfold hk opK
 rw [setT_runs,if_pos h,setR_has (isR_op _ _ _)]; rfl
theorem hk_of {s:List Known} {n:Int} (h:repOK n = true) (c:Int):hk (ofK s) n c = hk s n c:=by
 unfold hk ofK
 rw [setT_runs,if_pos h,setR_has (isR_has _)]
theorem setR_none {p:Int → Bool} (h:∀ c,p c = false):setR p = []:=(setR_eq (l:=[]) rfl fun c=>by rw [h]; rfl).symm
theorem mkT_nil {t:Int → List Run} (h:∀ n,repOK n = true → t n = []):setT t = []:=by
 have e:setT t = setT (runsK []):=setT_congr fun n hn=>by rw [h n hn]; rfl
 rw [e]; exact right_setT (s:=[]) rfl
theorem ofK_eq_iff {a b:List Known}:ofK a = ofK b ↔ ∀ n,repOK n = true → ∀ c,hk a n c = hk b n c:=by
 constructor
 ·intro h n hn c
  rw [← hk_of hn,← hk_of (s:=b) hn,h]
 ·intro h
  exact setT_congr fun n hn=>by
   have e:hasL13 (runsK a n) = hasL13 (runsK b n):=funext fun c=>h n hn c
   simp only [e]
end Go.Proofs.YtjfdlpagcgpaoaaGreat
namespace Go.Proofs.YtjfdlpagcgpaoaaGreat
open Go.Abs
set_option linter.unusedSimpArgs false
set_option linter.unusedVariables false
set_option maxRecDepth 20000
set_option maxHeartbeats 8000000
end Go.Proofs.YtjfdlpagcgpaoaaGreat
namespace Go.Proofs.YtjfdlpagcgpaoaaGreat
open Go.Abs
set_option linter.unusedSimpArgs false
set_option linter.unusedVariables false
set_option maxRecDepth 20000
set_option maxHeartbeats 4000000
def okL (l:List Rng):Prop:=∀ r ∈ l,r.ok
theorem rng_get {l:List Rng} {k:Nat} (h:k < l.length):(l.map Rng.enc)[k]? = some (.agg [.str l[k].lo,.str l[k].hi,.bool l[k].op]):=by
 rw [List.getElem?_map,List.getElem?_eq_getElem h]; rfl
theorem okL_get {l:List Rng} {k:Nat} (h:okL l) (hk:k < l.length):l[k].lo.length ≤ 9223372036854775807 ∧ l[k].hi.length ≤ 9223372036854775807:=h _ (List.getElem_mem hk)
@[simp] theorem map_rng_inj {l m:List Rng}:(l.map Rng.enc = m.map Rng.enc) = (l = m):=map_inj Rng.enc_inj
def prevR (l:List Rng) (k:Nat):Option Rng:=if k = 0 then none else l[k - 1]?
theorem prevR_succ {l:List Rng} {k:Nat} (h:k < l.length):prevR l (k + 1) = some l[k]:=by
 unfold prevR; rw [if_neg (by omega),show k + 1 - 1 = k by omega,List.getElem?_eq_getElem h]
theorem ok_ranges_Right:codeOK Tryz.prog T07 Tryz.f69.ntmps (Tryz.f69.body.getD .skip) = true:=by kernel_rfl
theorem c_ranges_Right (l:List Rng) (hl:l.length ≤ 4611686018427387904) (hok:okL l):CallA Tryz.prog 69 [.slc (l.map Rng.enc)] (· = .bool (rightRs l)):=by
 refine callA_of_body T07_ok mixed Tryz.func69 rfl (Nat.le_of_ble_eq_true rfl) ok_ranges_Right ?_
 unfold Tryz.f69
 simp -implicitDefEqProofs (maxSteps:=600000) (disch:=(first | omega | decide)) only [go_sem,↓reduceIte,seval,List.length_map]
 refine wpA_loop [0,5,6] (ι:={k:Nat // k ≤ l.length ∧ rightRs l = goRs (prevR l k) (l.drop k)}) (fun p=>[(7,.int .i64 p.1),(2,.bool false)]) (fun _=>[]) (fun p=>l.length - p.1) ⟨0,by omega,rfl⟩ (Nat.zero_le _) ?_ ?_
 ·simp -implicitDefEqProofs (maxSteps:=600000) (disch:=(first | omega | decide)) only [go_sem,↓reduceIte,seval]
 ·rintro ⟨k,hk,hd⟩
  simp only
  by_cases hlt:k < l.length
  ·have hlt':(k:Int) < (l.length:Int):=by omega
   have e1:=rng_get hlt
   have ok1:=okL_get hok hlt
   have hprev:=prevR_succ hlt
   rw [List.drop_eq_getElem_cons hlt] at hd
   simp only [goRs] at hd
   have next:rightRs l = goRs (some l[k]) (l.drop (k + 1)) → ∃ j:{k:Nat // k ≤ l.length ∧ rightRs l = goRs (prevR l k) (l.drop k)},(k:Int) + 1 = (j.1:Int) ∧ l.length - j.1 < l.length - k:=fun h=>⟨⟨k + 1,hlt,by rw [hprev]; exact h⟩,by simp,by show l.length - (k + 1) < l.length - k; omega⟩
   generalize hx:l[k] = x at *
   obtain ⟨lo,hi,op⟩:=x
   simp only at ok1
   cases h1:rightR ⟨lo,hi,op⟩ with
   | false=>
    have hh:rightRs l = false:=by rw [hd,h1]; rfl
    simp -implicitDefEqProofs (maxSteps:=600000) (disch:=(first | omega | decide)) only [go_sem,↓reduceIte,seval,hlt',e1,ok1,h1,hh,wrap_i64,List.length_map]
   | true=>
    by_cases h0:0 < k
    ·have h0':(0:Int) < (k:Int):=by omega
     have hk1:k - 1 < l.length:=by omega
     have e0:=rng_get hk1
     have ok0:=okL_get hok hk1
     have hpt:prevR l k = some l[k - 1]:=by
          unfold prevR; rw [if_neg (by omega),List.getElem?_eq_getElem hk1]
     have t0:((k:Int) - 1).toNat = k - 1:=by omega
     have b0:(0:Int) ≤ (k:Int) - 1:=by omega
     have b1:(k:Int) - 1 < (l.length:Int):=by omega
     rw [hpt] at hd
     generalize hy:l[k - 1] = y at *
     obtain ⟨lo',hi',op'⟩:=y
     simp only at ok0 hd
     cases h2:op' with
     | true=>
          subst h2
          have hh:rightRs l = false:=by rw [hd]; simp
          simp -implicitDefEqProofs (maxSteps:=600000) (disch:=(first | omega | decide)) only [go_sem,↓reduceIte,seval,hlt',e1,e0,ok0,ok1,h1,h0',t0,b0,b1,hh,wrap_i64,List.length_map]
     | false=>
          subst h2
          cases h3:ltB hi' lo with
          | false=>
           have hh:rightRs l = false:=by rw [hd,h3]; simp
           simp -implicitDefEqProofs (maxSteps:=600000) (disch:=(first | omega | decide)) only [go_sem,↓reduceIte,seval,hlt',e1,e0,ok0,ok1,h1,h3,h0',t0,b0,b1,hh,wrap_i64,List.length_map]
          | true=>
           simp -implicitDefEqProofs (maxSteps:=600000) (disch:=(first | omega | decide)) only [go_sem,↓reduceIte,seval,hlt',e1,e0,ok0,ok1,h1,h3,h0',t0,b0,b1,wrap_i64,List.length_map]
           exact next (by rw [hd,h1,h3]; simp)
    ·have h0':¬ (0:Int) < (k:Int):=by omega
     simp -implicitDefEqProofs (maxSteps:=600000) (disch:=(first | omega | decide)) only [go_sem,↓reduceIte,seval,hlt',e1,ok1,h1,h0',wrap_i64,List.length_map]
     have hk0:k = 0:=by omega
     exact next (by rw [hd,h1]; simp [prevR,hk0])
  ·have hlt':¬ (k:Int) < (l.length:Int):=by omega
   have hh:rightRs l = true:=by
    rw [hd,List.drop_of_length_le (by omega)]; cases prevR l k <;> rfl
   simp -implicitDefEqProofs (maxSteps:=600000) (disch:=(first | omega | decide)) only [go_sem,↓reduceIte,seval,hlt',hh,List.length_map]
theorem ok_ref08_Right:codeOK Tryz.prog T07 Tryz.f61.ntmps (Tryz.f61.body.getD .skip) = true:=by kernel_rfl
theorem c_ref08_Right (l:List Rng) (hl:l.length ≤ 4611686018427387904) (hok:okL l):CallA Tryz.prog 61 [.slc (l.map Rng.enc)] (· = .bool (rightRs l)):=by
 refine callA_of_body T07_ok mixed Tryz.func61 rfl (Nat.le_of_ble_eq_true rfl) ok_ref08_Right ?_
 unfold Tryz.f61
 simp -implicitDefEqProofs (maxSteps:=600000) (disch:=(first | omega | decide)) only [go_sem,↓reduceIte,seval,List.length_map]
 refine wpA_loop [0] (ι:={k:Nat // k ≤ l.length ∧ rightRs l = goRs (prevR l k) (l.drop k)}) (fun p=>[(3,.int .i64 p.1),(2,.bool false)]) (fun _=>[]) (fun p=>l.length - p.1) ⟨0,by omega,rfl⟩ (Nat.zero_le _) ?_ ?_
 ·simp -implicitDefEqProofs (maxSteps:=600000) (disch:=(first | omega | decide)) only [go_sem,↓reduceIte,seval]
 ·rintro ⟨k,hk,hd⟩
  simp only
  by_cases hlt:k < l.length
  ·have hlt':(k:Int) < (l.length:Int):=by omega
   have e1:=rng_get hlt
   have ok1:=okL_get hok hlt
   have hprev:=prevR_succ hlt
   rw [List.drop_eq_getElem_cons hlt] at hd
   simp only [goRs] at hd
   have next:rightRs l = goRs (some l[k]) (l.drop (k + 1)) → ∃ j:{k:Nat // k ≤ l.length ∧ rightRs l = goRs (prevR l k) (l.drop k)},(k:Int) + 1 = (j.1:Int) ∧ l.length - j.1 < l.length - k:=fun h=>⟨⟨k + 1,hlt,by rw [hprev]; exact h⟩,by simp,by show l.length - (k + 1) < l.length - k; omega⟩
   generalize hx:l[k] = x at *
   obtain ⟨lo,hi,op⟩:=x
   simp only at ok1
   cases h1:rightR ⟨lo,hi,op⟩ with
   | false=>
    have hh:rightRs l = false:=by rw [hd,h1]; rfl
    simp -implicitDefEqProofs (maxSteps:=600000) (disch:=(first | omega | decide)) only [go_sem,↓reduceIte,seval,hlt',e1,ok1,h1,hh,wrap_i64,List.length_map]
   | true=>
    by_cases h0:0 < k
    ·have h0':(0:Int) < (k:Int):=by omega
     have hk1:k - 1 < l.length:=by omega
     have e0:=rng_get hk1
     have ok0:=okL_get hok hk1
     have hpt:prevR l k = some l[k - 1]:=by
          unfold prevR; rw [if_neg (by omega),List.getElem?_eq_getElem hk1]
     have t0:((k:Int) - 1).toNat = k - 1:=by omega
     have b0:(0:Int) ≤ (k:Int) - 1:=by omega
     have b1:(k:Int) - 1 < (l.length:Int):=by omega
     rw [hpt] at hd
     generalize hy:l[k - 1] = y at *
     obtain ⟨lo',hi',op'⟩:=y
     simp only at ok0 hd
     cases h2:op' with
     | true=>
          subst h2
          have hh:rightRs l = false:=by rw [hd]; simp
          simp -implicitDefEqProofs (maxSteps:=600000) (disch:=(first | omega | decide)) only [go_sem,↓reduceIte,seval,hlt',e1,e0,ok0,ok1,h1,h0',t0,b0,b1,hh,wrap_i64,List.length_map]
     | false=>
          subst h2
          cases h3:ltB hi' lo with
          | false=>
           have hh:rightRs l = false:=by rw [hd,h3]; simp
           simp -implicitDefEqProofs (maxSteps:=600000) (disch:=(first | omega | decide)) only [go_sem,↓reduceIte,seval,hlt',e1,e0,ok0,ok1,h1,h3,h0',t0,b0,b1,hh,wrap_i64,List.length_map]
          | true=>
           simp -implicitDefEqProofs (maxSteps:=600000) (disch:=(first | omega | decide)) only [go_sem,↓reduceIte,seval,hlt',e1,e0,ok0,ok1,h1,h3,h0',t0,b0,b1,wrap_i64,List.length_map]
           exact next (by rw [hd,h1,h3]; simp)
    ·have h0':¬ (0:Int) < (k:Int):=by omega
     simp -implicitDefEqProofs (maxSteps:=600000) (disch:=(first | omega | decide)) only [go_sem,↓reduceIte,seval,hlt',e1,ok1,h1,h0',wrap_i64,List.length_map]
     have hk0:k = 0:=by omega
     exact next (by rw [hd,h1]; simp [prevR,hk0])
  ·have hlt':¬ (k:Int) < (l.length:Int):=by omega
   have hh:rightRs l = true:=by
    rw [hd,List.drop_of_length_le (by omega)]; cases prevR l k <;> rfl
   simp -implicitDefEqProofs (maxSteps:=600000) (disch:=(first | omega | decide)) only [go_sem,↓reduceIte,seval,hlt',hh,List.length_map]
theorem ok_ref08_Has:codeOK Tryz.prog T07 Tryz.f38.ntmps (Tryz.f38.body.getD .skip) = true:=by kernel_rfl
theorem c_ref08_Has (l:List Rng) (s:List UInt8) (hl:l.length ≤ 4611686018427387904) (hok:okL l) (hs:s.length ≤ 9223372036854775807):CallA Tryz.prog 38 [.slc (l.map Rng.enc),.str s] (· = .bool (hasRs l s)):=by
 refine callA_of_body T07_ok mixed Tryz.func38 rfl (Nat.le_of_ble_eq_true rfl) ok_ref08_Has ?_
 unfold Tryz.f38
 simp -implicitDefEqProofs (maxSteps:=600000) (disch:=(first | omega | decide)) only [go_sem,↓reduceIte,seval,List.length_map]
 refine wpA_loop [0,1] (ι:={k:Nat // k ≤ l.length ∧ hasRs l s = hasRs (l.drop k) s}) (fun p=>[(5,.int .i64 p.1),(4,.bool false)]) (fun _=>[]) (fun p=>l.length - p.1) ⟨0,by omega,rfl⟩ (Nat.zero_le _) ?_ ?_
 ·simp -implicitDefEqProofs (maxSteps:=600000) (disch:=(first | omega | decide)) only [go_sem,↓reduceIte,seval]
 ·rintro ⟨k,hk,hd⟩
  simp only
  by_cases hlt:k < l.length
  ·have hlt':(k:Int) < (l.length:Int):=by omega
   have e1:=rng_get hlt
   have ok1:=okL_get hok hlt
   rw [List.drop_eq_getElem_cons hlt,hasRs_cons] at hd
   generalize hx:l[k] = x at *
   obtain ⟨lo,hi,op⟩:=x
   simp only at ok1
   cases h1:hasR ⟨lo,hi,op⟩ s with
   | true=>
    have hh:hasRs l s = true:=by rw [hd,h1]; rfl
    simp -implicitDefEqProofs (maxSteps:=600000) (disch:=(first | omega | decide)) only [go_sem,↓reduceIte,seval,hlt',e1,ok1,h1,hh,wrap_i64,List.length_map]
   | false=>
    simp -implicitDefEqProofs (maxSteps:=600000) (disch:=(first | omega | decide)) only [go_sem,↓reduceIte,seval,hlt',e1,ok1,h1,wrap_i64,List.length_map]
    exact ⟨⟨k + 1,hlt,by rw [hd,h1]; rfl⟩,by simp,by show l.length - (k + 1) < l.length - k; omega⟩
  ·have hlt':¬ (k:Int) < (l.length:Int):=by omega
   have hh:hasRs l s = false:=by rw [hd,List.drop_of_length_le (by omega)]; rfl
   simp -implicitDefEqProofs (maxSteps:=600000) (disch:=(first | omega | decide)) only [go_sem,↓reduceIte,seval,hlt',hh,List.length_map]
def longRs (l:List Rng) (m:Int):Bool:=decide (m < (l.length:Int)) || l.any fun r=>decide (40 < r.lo.length) || decide (40 < r.hi.length)
theorem ok_ref08_Long:codeOK Tryz.prog T07 Tryz.f60.ntmps (Tryz.f60.body.getD .skip) = true:=by kernel_rfl
theorem c_ref08_Long (l:List Rng) (m:Int) (hl:l.length ≤ 4611686018427387904):CallA Tryz.prog 60 [.slc (l.map Rng.enc),.int .i64 m] (· = .bool (longRs l m)):=by
 refine callA_of_body T07_ok mixed Tryz.func60 rfl (Nat.le_of_ble_eq_true rfl) ok_ref08_Long ?_
 unfold Tryz.f60
 by_cases h0:m < (l.length:Int)
 ·have hh:longRs l m = true:=by simp [longRs,h0]
  simp -implicitDefEqProofs (maxSteps:=600000) (disch:=(first | omega | decide)) only [go_sem,↓reduceIte,seval,h0,hh,List.length_map]
 ·have hh:longRs l m = l.any fun r=>decide (40 < r.lo.length) || decide (40 < r.hi.length):=by simp [longRs,h0]
  simp -implicitDefEqProofs (maxSteps:=600000) (disch:=(first | omega | decide)) only [go_sem,↓reduceIte,seval,h0,List.length_map]
  rw [hh]
  refine wpA_loop [0] (ι:={k:Nat // k ≤ l.length ∧ (l.any fun r=>decide (40 < r.lo.length) || decide (40 < r.hi.length)) = ((l.drop k).any fun r=>decide (40 < r.lo.length) || decide (40 < r.hi.length))}) (fun p=>[(5,.int .i64 p.1),(4,.bool false)]) (fun _=>[]) (fun p=>l.length - p.1) ⟨0,by omega,rfl⟩ (Nat.zero_le _) ?_ ?_
  ·simp -implicitDefEqProofs (maxSteps:=600000) (disch:=(first | omega | decide)) only [go_sem,↓reduceIte,seval]
  ·rintro ⟨k,hk,hd⟩
   simp only
   by_cases hlt:k < l.length
   ·have hlt':(k:Int) < (l.length:Int):=by omega
    have e1:=rng_get hlt
    rw [List.drop_eq_getElem_cons hlt,List.any_cons] at hd
    generalize hx:l[k] = x at *
    obtain ⟨lo,hi,op⟩:=x
    simp only at hd
    by_cases h1:40 < lo.length
    ·have h1':(40:Int) < (lo.length:Int):=by omega
     rw [decide_eq_true h1,Bool.true_or,Bool.true_or] at hd
     simp -implicitDefEqProofs (maxSteps:=600000) (disch:=(first | omega | decide)) only [go_sem,↓reduceIte,seval,hlt',e1,h1',hd,wrap_i64,List.length_map]
    ·have h1':¬ (40:Int) < (lo.length:Int):=by omega
     by_cases h2:40 < hi.length
     ·have h2':(40:Int) < (hi.length:Int):=by omega
      rw [decide_eq_true h2,Bool.or_true,Bool.true_or] at hd
      simp -implicitDefEqProofs (maxSteps:=600000) (disch:=(first | omega | decide)) only [go_sem,↓reduceIte,seval,hlt',e1,h1',h2',hd,wrap_i64,List.length_map]
     ·have h2':¬ (40:Int) < (hi.length:Int):=by omega
      rw [decide_eq_false h1,decide_eq_false h2,Bool.or_false,Bool.false_or] at hd
      simp -implicitDefEqProofs (maxSteps:=600000) (disch:=(first | omega | decide)) only [go_sem,↓reduceIte,seval,hlt',e1,h1',h2',wrap_i64,List.length_map]
      exact ⟨⟨k + 1,hlt,hd⟩,by simp,by show l.length - (k + 1) < l.length - k; omega⟩
   ·have hlt':¬ (k:Int) < (l.length:Int):=by omega
    rw [List.drop_of_length_le (by omega)] at hd
    simp -implicitDefEqProofs (maxSteps:=600000) (disch:=(first | omega | decide)) only [go_sem,↓reduceIte,seval,hlt',hd,List.length_map]
end Go.Proofs.YtjfdlpagcgpaoaaGreat
namespace Go.Proofs.YtjfdlpagcgpaoaaGreat
set_option linter.unusedSimpArgs false
set_option linter.unusedVariables false
def compL {α:Type} [DecidableEq α]:List α → List α
 | []=>[]
 | [x]=>[x]
 | x :: y :: l=>if x = y then compL (y :: l) else x :: compL (y :: l)
section
variable {α:Type} [DecidableEq α]
theorem compL_snoc:∀ (l:List α) (x y:α),compL (l ++ [x,y]) = if x = y then compL (l ++ [x]) else compL (l ++ [x]) ++ [y]
 | [],x,y=>by by_cases h:x = y <;> simp [compL,h]
 | [z],x,y=>by
  by_cases h:x = y
  ·by_cases h2:z = x <;> simp [compL,h,h2]
  ·by_cases h2:z = x <;> simp [compL,h,h2]
 | z :: w :: l,x,y=>by
  have ih:=compL_snoc (w :: l) x y
  simp only [List.cons_append,compL] at ih ⊢
  by_cases h2:z = w
  ·rw [if_pos h2,if_pos h2]; exact ih
  ·rw [if_neg h2,if_neg h2,ih]
   by_cases h:x = y <;> simp [h]
theorem compL_len:∀ l:List α,(compL l).length ≤ l.length
 | []=>by simp [compL]
 | [x]=>by simp [compL]
 | x :: y :: l=>by
  have:=compL_len (y :: l)
  simp only [compL]
  split <;> simp at * <;> omega
theorem compL_mem:∀ {l:List α} {z:α},z ∈ compL l ↔ z ∈ l
 | [],z=>by simp [compL]
 | [x],z=>by simp [compL]
 | x :: y :: l,z=>by
  have ih:=@compL_mem (y :: l) z
  simp only [compL]
  split
  ·rename_i h; subst h; rw [ih]; simp
  ·rw [List.mem_cons,ih,List.mem_cons (l:=y :: l)]
end
theorem compL_step {α:Type} [DecidableEq α] {l:List α} {k:Nat} (h1:1 ≤ k) (h:k < l.length):compL (l.take (k + 1)) = if l[k - 1] = l[k] then compL (l.take k) else compL (l.take k) ++ [l[k]]:=by
 have e1:l.take k = l.take (k - 1) ++ [l[k - 1]]:=by
  have:=List.take_append_getElem (l:=l) (i:=k - 1) (by omega)
  rw [show k - 1 + 1 = k by omega] at this
  exact this.symm
 have e2:l.take (k + 1) = l.take (k - 1) ++ [l[k - 1],l[k]]:=by
  rw [← List.take_append_getElem h,e1,List.append_assoc]; rfl
 rw [e2,compL_snoc,← e1]
end Go.Proofs.YtjfdlpagcgpaoaaGreat
namespace Go.Proofs
open Go.Shelf
def YtjfdlpagcgpaoaaGreat.sortStr_ren:Go.Shelf.Ren:=⟨fun | 6=>199 | 15=>140 | 14=>237 | 28=>192 | 29=>193 | 20=>264 | 21=>265 | 22=>266 | 23=>267 | 24=>268 | 25=>269 | 26=>270 | 27=>271 | 46=>288 | 47=>232 | 48=>233 | 49=>289 | 50=>290 | 57=>304 | n=>n,fun | 22=>133 | 24=>9 | 25=>156 | 3=>3 | 39=>162 | 0=>0 | 53=>48 | 55=>210 | 4=>4 | 46=>202 | 45=>201 | 50=>206 | 5=>5 | 9=>9 | 66=>234 | 70=>238 | 76=>254 | 77=>255 | n=>n,fun | n=>n⟩
theorem YtjfdlpagcgpaoaaGreat.sortStr:Go.Proofs.SlLaysF.n6 Tryz.prog YtjfdlpagcgpaoaaGreat.sortStr_ren:={
 mixed:=by kernel_rfl
 f6:=⟨Tryz.f199.name,by decide,Tryz.func199.trans (congrArg some (by kernel_rfl))⟩
 f14:=⟨Tryz.f237.name,by decide,Tryz.func237.trans (congrArg some (by kernel_rfl))⟩
 f15:=Tryz.func140.trans (congrArg some (by kernel_rfl))
 f20:=⟨Tryz.f264.name,by decide,Tryz.func264.trans (congrArg some (by kernel_rfl))⟩
 f21:=⟨Tryz.f265.name,by decide,Tryz.func265.trans (congrArg some (by kernel_rfl))⟩
 f22:=⟨Tryz.f266.name,by decide,Tryz.func266.trans (congrArg some (by kernel_rfl))⟩
 f23:=⟨Tryz.f267.name,by decide,Tryz.func267.trans (congrArg some (by kernel_rfl))⟩
 f24:=⟨Tryz.f268.name,by decide,Tryz.func268.trans (congrArg some (by kernel_rfl))⟩
 f25:=⟨Tryz.f269.name,by decide,Tryz.func269.trans (congrArg some (by kernel_rfl))⟩
 f26:=⟨Tryz.f270.name,by decide,Tryz.func270.trans (congrArg some (by kernel_rfl))⟩
 f27:=⟨Tryz.f271.name,by decide,Tryz.func271.trans (congrArg some (by kernel_rfl))⟩
 f28:=Tryz.func192.trans (congrArg some (by kernel_rfl))
 f29:=Tryz.func193.trans (congrArg some (by kernel_rfl))
 f46:=⟨Tryz.f288.name,by decide,Tryz.func288.trans (congrArg some (by kernel_rfl))⟩
 f47:=Tryz.func232.trans (congrArg some (by kernel_rfl))
 f48:=Tryz.func233.trans (congrArg some (by kernel_rfl))
 f49:=⟨Tryz.f289.name,by decide,Tryz.func289.trans (congrArg some (by kernel_rfl))⟩
 f50:=⟨Tryz.f290.name,by decide,Tryz.func290.trans (congrArg some (by kernel_rfl))⟩
 f57:=⟨Tryz.f304.name,by decide,Tryz.func304.trans (congrArg some (by kernel_rfl))⟩
 t0:=Tryz.underlying0
 a0:=Tryz.isAgg0
 z0:=Tryz.sizeOf0
 v0:=Tryz.zeroValue0
 t3:=Tryz.underlying3
 a3:=Tryz.isAgg3
 z3:=Tryz.sizeOf3
 v3:=Tryz.zeroValue3
 t4:=Tryz.underlying4
 a4:=Tryz.isAgg4
 z4:=Tryz.sizeOf4
 v4:=Tryz.zeroValue4
 t5:=Tryz.underlying5
 a5:=Tryz.isAgg5
 z5:=Tryz.sizeOf5
 v5:=Tryz.zeroValue5
 t9:=Tryz.underlying9
 a9:=Tryz.isAgg9
 z9:=Tryz.sizeOf9
 v9:=Tryz.zeroValue9
 t22:=Tryz.underlying133
 a22:=Tryz.isAgg133
 z22:=Tryz.sizeOf133
 v22:=Tryz.zeroValue133
 a24:=Tryz.isAgg9
 z24:=Tryz.sizeOf9
 t25:=Tryz.underlying156
 a25:=Tryz.isAgg156
 z25:=Tryz.sizeOf156
 v25:=Tryz.zeroValue156
 t39:=Tryz.underlying162
 a39:=Tryz.isAgg162
 z39:=Tryz.sizeOf162
 v39:=Tryz.zeroValue162
 t45:=Tryz.underlying201
 a45:=Tryz.isAgg201
 z45:=Tryz.sizeOf201
 v45:=Tryz.zeroValue201
 t46:=Tryz.underlying202
 a46:=Tryz.isAgg202
 z46:=Tryz.sizeOf202
 v46:=Tryz.zeroValue202
 t50:=Tryz.underlying206
 a50:=Tryz.isAgg206
 z50:=Tryz.sizeOf206
 v50:=Tryz.zeroValue206
 t53:=Tryz.underlying48
 a53:=Tryz.isAgg48
 z53:=Tryz.sizeOf48
 v53:=Tryz.zeroValue48
 t55:=Tryz.underlying210
 a55:=Tryz.isAgg210
 z55:=Tryz.sizeOf210
 v55:=Tryz.zeroValue210
 t66:=Tryz.underlying234
 a66:=Tryz.isAgg234
 z66:=Tryz.sizeOf234
 v66:=Tryz.zeroValue234
 t70:=Tryz.underlying238
 a70:=Tryz.isAgg238
 z70:=Tryz.sizeOf238
 v70:=Tryz.zeroValue238
 t76:=Tryz.underlying254
 a76:=Tryz.isAgg254
 z76:=Tryz.sizeOf254
 v76:=Tryz.zeroValue254
 t77:=Tryz.underlying255
 a77:=Tryz.isAgg255
 z77:=Tryz.sizeOf255
 v77:=Tryz.zeroValue255 }
def YtjfdlpagcgpaoaaGreat.sortStr0_ren:Go.Shelf.Ren:=⟨fun | 6=>199 | 15=>140 | 14=>237 | 28=>192 | 29=>193 | 20=>264 | 21=>265 | 22=>266 | 23=>267 | 24=>268 | 25=>269 | 26=>270 | 27=>271 | 46=>288 | 47=>232 | 48=>233 | 49=>289 | 50=>290 | 57=>304 | n=>n,fun | 22=>133 | 24=>9 | 25=>156 | 3=>3 | 39=>162 | 0=>0 | 53=>48 | 55=>210 | 4=>4 | 46=>202 | 45=>201 | 50=>206 | 5=>5 | 9=>9 | 66=>234 | 70=>238 | 76=>254 | 77=>255 | n=>n,fun | n=>n⟩
theorem YtjfdlpagcgpaoaaGreat.sortStr0:Go.Proofs.SlLaysF0.n6 Tryz.prog YtjfdlpagcgpaoaaGreat.sortStr0_ren:={
 mixed:=by kernel_rfl
 f6:=⟨Tryz.f199.name,by decide,Tryz.func199.trans (congrArg some (by kernel_rfl))⟩
 f14:=⟨Tryz.f237.name,by decide,Tryz.func237.trans (congrArg some (by kernel_rfl))⟩
 f15:=Tryz.func140.trans (congrArg some (by kernel_rfl))
 f20:=⟨Tryz.f264.name,by decide,Tryz.func264.trans (congrArg some (by kernel_rfl))⟩
 f21:=⟨Tryz.f265.name,by decide,Tryz.func265.trans (congrArg some (by kernel_rfl))⟩
 f22:=⟨Tryz.f266.name,by decide,Tryz.func266.trans (congrArg some (by kernel_rfl))⟩
 f23:=⟨Tryz.f267.name,by decide,Tryz.func267.trans (congrArg some (by kernel_rfl))⟩
 f24:=⟨Tryz.f268.name,by decide,Tryz.func268.trans (congrArg some (by kernel_rfl))⟩
 f25:=⟨Tryz.f269.name,by decide,Tryz.func269.trans (congrArg some (by kernel_rfl))⟩
 f26:=⟨Tryz.f270.name,by decide,Tryz.func270.trans (congrArg some (by kernel_rfl))⟩
 f27:=⟨Tryz.f271.name,by decide,Tryz.func271.trans (congrArg some (by kernel_rfl))⟩
 f28:=Tryz.func192.trans (congrArg some (by kernel_rfl))
 f29:=Tryz.func193.trans (congrArg some (by kernel_rfl))
 f46:=⟨Tryz.f288.name,by decide,Tryz.func288.trans (congrArg some (by kernel_rfl))⟩
 f47:=Tryz.func232.trans (congrArg some (by kernel_rfl))
 f48:=Tryz.func233.trans (congrArg some (by kernel_rfl))
 f49:=⟨Tryz.f289.name,by decide,Tryz.func289.trans (congrArg some (by kernel_rfl))⟩
 f50:=⟨Tryz.f290.name,by decide,Tryz.func290.trans (congrArg some (by kernel_rfl))⟩
 f57:=⟨Tryz.f304.name,by decide,Tryz.func304.trans (congrArg some (by kernel_rfl))⟩
 t0:=Tryz.underlying0
 a0:=Tryz.isAgg0
 z0:=Tryz.sizeOf0
 v0:=Tryz.zeroValue0
 t3:=Tryz.underlying3
 a3:=Tryz.isAgg3
 z3:=Tryz.sizeOf3
 v3:=Tryz.zeroValue3
 t4:=Tryz.underlying4
 a4:=Tryz.isAgg4
 z4:=Tryz.sizeOf4
 v4:=Tryz.zeroValue4
 t5:=Tryz.underlying5
 a5:=Tryz.isAgg5
 z5:=Tryz.sizeOf5
 v5:=Tryz.zeroValue5
 t9:=Tryz.underlying9
 a9:=Tryz.isAgg9
 z9:=Tryz.sizeOf9
 v9:=Tryz.zeroValue9
 t22:=Tryz.underlying133
 a22:=Tryz.isAgg133
 z22:=Tryz.sizeOf133
 v22:=Tryz.zeroValue133
 t25:=Tryz.underlying156
 a25:=Tryz.isAgg156
 z25:=Tryz.sizeOf156
 v25:=Tryz.zeroValue156
 t39:=Tryz.underlying162
 a39:=Tryz.isAgg162
 z39:=Tryz.sizeOf162
 v39:=Tryz.zeroValue162
 t45:=Tryz.underlying201
 a45:=Tryz.isAgg201
 z45:=Tryz.sizeOf201
 v45:=Tryz.zeroValue201
 t46:=Tryz.underlying202
 a46:=Tryz.isAgg202
 z46:=Tryz.sizeOf202
 v46:=Tryz.zeroValue202
 t50:=Tryz.underlying206
 a50:=Tryz.isAgg206
 z50:=Tryz.sizeOf206
 v50:=Tryz.zeroValue206
 t53:=Tryz.underlying48
 a53:=Tryz.isAgg48
 z53:=Tryz.sizeOf48
 v53:=Tryz.zeroValue48
 t55:=Tryz.underlying210
 a55:=Tryz.isAgg210
 z55:=Tryz.sizeOf210
 v55:=Tryz.zeroValue210
 t66:=Tryz.underlying234
 a66:=Tryz.isAgg234
 z66:=Tryz.sizeOf234
 v66:=Tryz.zeroValue234
 t70:=Tryz.underlying238
 a70:=Tryz.isAgg238
 z70:=Tryz.sizeOf238
 v70:=Tryz.zeroValue238
 t76:=Tryz.underlying254
 a76:=Tryz.isAgg254
 z76:=Tryz.sizeOf254
 v76:=Tryz.zeroValue254
 t77:=Tryz.underlying255
 a77:=Tryz.isAgg255
 z77:=Tryz.sizeOf255
 v77:=Tryz.zeroValue255 }
end Go.Proofs
namespace Go.Proofs.YtjfdlpagcgpaoaaGreat
open Go.Abs
set_option linter.unusedSimpArgs false
set_option linter.unusedVariables false
set_option maxRecDepth 20000
set_option maxHeartbeats 8000000
abbrev StrB:={s:List UInt8 // s.length ≤ 17}
instance:Inhabited StrB:=⟨⟨[],by decide⟩⟩
def cfS (a b:StrB):Int:=cmpB a.1 b.1
def StrB.enc (s:StrB):A:=.str s.1
theorem swoS:Go.Sort.SWO (Go.Proofs.ltOf cfS):=by
 have hl:∀ a b,Go.Proofs.ltOf cfS a b = ltB a.1 b.1:=fun a b=>by
  unfold Go.Proofs.ltOf cfS
  exact cmp_lt0
 refine ⟨fun x=>?_,fun x y z h1 h2=>?_,fun x y z h1 h2=>?_⟩
 ·rw [hl]; exact lt_irrefl _
 ·rw [hl] at *; exact lt_trans' h1 h2
 ·rw [hl] at *; exact not_lt_trans h2 h1
theorem c_SortFunc_Str (l:List StrB) (hl:l.length < 4611686018427387904):CallH Tryz.prog 199 [.row 0 0 1 l.length false,.fn 133 []] [.row 1 (l.map StrB.enc)]
 (.tup []) [.row 1 ((sortL cfS l).map StrB.enc)] []:=
 sort_scalar Go.Proofs.YtjfdlpagcgpaoaaGreat.sortStr Go.Proofs.YtjfdlpagcgpaoaaGreat.sortStr0 StrB.enc (fun _=>rfl) cfS swoS (callable_of Tryz.func133 (by kernel_rfl) (by kernel_rfl)) (fun x y=>c_key_Cmp x.1 y.1 (by have:=x.2; omega) (by have:=y.2; omega)) l hl false
def asB:(l:List (List UInt8)) → (∀ s ∈ l,s.length ≤ 17) → List StrB
 | [],_=>[]
 | s :: l,h=>⟨s,h s (by simp)⟩ :: asB l (fun x hx=>h x (by simp [hx]))
theorem asB_val:∀ (l:List (List UInt8)) (h:∀ s ∈ l,s.length ≤ 17),(asB l h).map (·.1) = l
 | [],_=>rfl
 | s :: l,h=>by simp [asB,asB_val l]
theorem asB_enc (l:List (List UInt8)) (h:∀ s ∈ l,s.length ≤ 17):(asB l h).map StrB.enc = l.map A.str:=by
 have:=asB_val l h
 conv=>rhs; rw [← this]
 rw [List.map_map]; rfl
theorem asB_len (l:List (List UInt8)) (h:∀ s ∈ l,s.length ≤ 17):(asB l h).length = l.length:=by
 have:=congrArg List.length (asB_val l h)
 simpa using this
open Classical in
/-- Texts, sorted. -/
noncomputable def sortT (l:List (List UInt8)):List (List UInt8):=if h:∀ s ∈ l,s.length ≤ 17 then (sortL cfS (asB l h)).map (·.1) else l
theorem sortT_spec {l:List (List UInt8)} (h:∀ s ∈ l,s.length ≤ 17):(sortT l).Perm l ∧ (sortT l).Pairwise (fun x y=>ltB y x = false):=by
 unfold sortT
 rw [dif_pos h]
 obtain ⟨h1,h2⟩:=sortL_spec swoS (asB l h)
 refine ⟨?_,?_⟩
 ·have:=h1.map (·.1)
  rwa [asB_val] at this
 ·rw [List.pairwise_map]
  exact h2.imp fun {x y} hh=>by
   unfold cfS at hh
   have:=@cmp_lt0 y.1 x.1
   rw [← this]; exact decide_eq_false hh
theorem sortT_enc {l:List (List UInt8)} (h:∀ s ∈ l,s.length ≤ 17):(sortL cfS (asB l h)).map StrB.enc = (sortT l).map A.str:=by
 unfold sortT
 rw [dif_pos h,List.map_map]; rfl
theorem comp_up:∀ {l:List (List UInt8)},l.Pairwise (fun x y=>ltB y x = false) → (compL l).Pairwise (fun x y=>ltB x y = true)
 | [],_=>by simp [compL]
 | [x],_=>by simp [compL]
 | x :: y :: l,h=>by
  rw [List.pairwise_cons] at h
  have ih:=comp_up h.2
  simp only [compL]
  split
  ·exact ih
  ·rename_i hne
   have hxy:ltB x y = true:=by
    rcases lt_tri x y with h1 | h1 | h1
    ·exact h1
    ·exact absurd h1 hne
    ·have:=h.1 y (by simp); rw [h1] at this; cases this
   rw [List.pairwise_cons]
   refine ⟨fun z hz=>?_,ih⟩
   rw [compL_mem] at hz
   rcases List.mem_cons.1 hz with rfl | hz
   ·exact hxy
   ·exact lt_of_lt_not hxy ((List.pairwise_cons.1 h.2).1 z hz)
noncomputable def TCs:Tab:={ T07 with fix:=fun n=>n == 0,nf:=1 }
theorem TCs_ok:TabOK Tryz.prog TCs:=⟨T07_ok.f,T07_ok.hp⟩
@[go_sem] theorem TCs_ords {n:Nat}:TCs.ords n = []:=rfl
theorem ok_slices_Compact_string_string:codeOK Tryz.prog TCs Tryz.f200.ntmps (Tryz.f200.body.getD .skip) = true:=by kernel_rfl
theorem c_Compact_Str (l:List (List UInt8)) (hl:l.length ≤ 4611686018427387903):CallH Tryz.prog 200 [.row 0 0 1 l.length false] [.row 1 (l.map A.str)]
 (.row 0 0 1 (compL l).length false) [.row 1 ((compL l ++ List.replicate (l.length - (compL l).length) ([]:List UInt8)).map A.str)] []:=by
 refine callH_of_body TCs_ok mixed Tryz.func200 rfl (Nat.le_of_ble_eq_true rfl) (fun n h _=>by simp at h; subst h; rfl) (by show _ ≤ 1; simp) (by show 1 ≤ _; simp) ok_slices_Compact_string_string ?_
 unfold Tryz.f200
 by_cases h2:(l.length:Int) < 2
 ·have hc:compL l = l:=by
   match l,h2 with
   | [],_=>rfl
   | [x],_=>rfl
   | _ :: _ :: _,h=>simp at h; omega
  rw [hc]
  simp -implicitDefEqProofs (maxSteps:=600000) (disch:=(first | omega | decide)) only [go_sem,↓reduceIte,seval,h2,List.length_map]
  simp
 ·simp -implicitDefEqProofs (maxSteps:=600000) (disch:=(first | omega | decide)) only [go_sem,↓reduceIte,seval,h2,List.length_map]
  refine wpA_loop [0] (ι:={k:Nat // 1 ≤ k ∧ k ≤ l.length ∧ compL (l.take k) = l.take k}) (fun p=>[(3,.int .i64 p.1)]) (fun _=>[]) (fun p=>l.length - p.1) ⟨1,by omega,by omega,by match l with | []=>rfl | [x]=>rfl | x :: y :: l=>rfl⟩ (by show 1 ≤ _; simp) ?_ ?_
  ·simp -implicitDefEqProofs (maxSteps:=600000) (disch:=(first | omega | decide)) only [go_sem,↓reduceIte,seval]
  ·rintro ⟨k,hk1,hk,hd⟩
   simp only
   by_cases hlt:k < l.length
   ·have hlt':(k:Int) < (l.length:Int):=by omega
    have hstep:=compL_step hk1 hlt
    have e1:(l.map A.str)[k]? = some (.str l[k]):=by
     rw [List.getElem?_map,List.getElem?_eq_getElem hlt]; rfl
    have e0:(l.map A.str)[k - 1]? = some (.str l[k - 1]):=by
     rw [List.getElem?_map,List.getElem?_eq_getElem (by omega)]; rfl
    have t0:((k:Int) - 1).toNat = k - 1:=by omega
    have b0:(0:Int) ≤ (k:Int) - 1:=by omega
    have b1:(k:Int) - 1 < (l.length:Int):=by omega
    generalize hx:l[k] = x at e1 hstep
    generalize hy:l[k - 1] = y at e0 hstep
    have next:y ≠ x → compL (l.take (k + 1)) = l.take (k + 1):=fun hne=>by
     rw [hstep,if_neg hne,hd,← hx]; exact List.take_append_getElem hlt
    cases h3:x == y with
    | true=>
     obtain rfl:x = y:=by simpa using h3
     have b2:(k:Int) ≤ (l.length:Int):=by omega
     rw [if_pos rfl] at hstep
     have hlen:(compL (l.take (k + 1))).length = k:=by rw [hstep,hd,List.length_take]; omega
     have tk:((l.length:Int) - (k:Int)).toNat = l.length - k:=by omega
     simp -implicitDefEqProofs (maxSteps:=600000) (disch:=(first | omega | decide)) only [go_sem,↓reduceIte,seval,hlt',e1,e0,t0,b0,b1,b2,tk,h3,wrap_i64,List.length_map,Int.le_refl]
     clear next e1 e0 hx hy h3 t0 b0
     refine wpA_loop [0,4] (ι:={p:Nat × Nat × List (List UInt8) // 1 ≤ p.1 ∧ k + p.1 ≤ l.length ∧ p.2.1 = (compL (l.take (k + p.1))).length ∧ p.2.2.length = l.length ∧ p.2.2.take p.2.1 = compL (l.take (k + p.1)) ∧ p.2.2.drop (k + p.1 - 1) = l.drop (k + p.1 - 1) ∧ p.2.1 ≤ k + p.1 - 1}) (fun p=>[(3,.int .i64 p.1.2.1),(5,.int .i64 p.1.1)]) (fun p=>[(0,.row 1 (p.1.2.2.map A.str))]) (fun p=>l.length - p.1.1) ⟨(1,k,l),by omega,hlt,hlen.symm,rfl,by rw [hstep,hd],rfl,by show k ≤ k + 1 - 1; omega⟩ (by show 1 ≤ _; simp) ?_ ?_
     ·simp -implicitDefEqProofs (maxSteps:=600000) (disch:=(first | omega | decide)) only [go_sem,↓reduceIte,seval]
     ·rintro ⟨⟨j,m,e⟩,hj1,hj,hm,he,htk,hdr,hmj⟩
      simp only at hj1 hj hm he htk hdr hmj
      have get:∀ i,k + j - 1 ≤ i → e[i]? = l[i]?:=fun i hi=>by
           have:=congrArg (fun x:List (List UInt8)=>x[i - (k + j - 1)]?) hdr
           simp only [List.getElem?_drop] at this
           rwa [show k + j - 1 + (i - (k + j - 1)) = i by omega] at this
      by_cases hq:k + j < l.length
      ·have hq':(j:Int) < ((l.length - k:Nat):Int):=by omega
       have hstep:=compL_step (l:=l) (k:=k + j) (by omega) hq
       have e1:(e.map A.str)[k + j]? = some (.str l[k + j]):=by
        rw [List.getElem?_map,get _ (by omega),List.getElem?_eq_getElem hq]; rfl
       have e0:(e.map A.str)[k + (j - 1)]? = some (.str l[k + j - 1]):=by
        rw [List.getElem?_map,get _ (by omega),show k + (j - 1) = k + j - 1 by omega,List.getElem?_eq_getElem (by omega)]; rfl
       have t0:((j:Int) - 1).toNat = j - 1:=by omega
       have b0:(0:Int) ≤ (j:Int) - 1:=by omega
       have b3:(j:Int) - 1 < ((l.length - k:Nat):Int):=by omega
       generalize hx:l[k + j] = x at e1 hstep
       generalize hy:l[k + j - 1] = y at e0 hstep
       have hdr2:e.drop (k + (j + 1) - 1) = l.drop (k + (j + 1) - 1):=by
        have:=congrArg (List.drop 1) hdr
        rwa [List.drop_drop,List.drop_drop,show k + j - 1 + 1 = k + (j + 1) - 1 by omega] at this
       have b4:(m:Int) < (l.length:Int):=by omega
       have b5:m < e.length:=by omega
       have next:y ≠ x → (m + 1 = (compL (l.take (k + (j + 1)))).length ∧ (e.set m x).length = l.length ∧ (e.set m x).take (m + 1) = compL (l.take (k + (j + 1))) ∧ (e.set m x).drop (k + (j + 1) - 1) = l.drop (k + (j + 1) - 1) ∧ m + 1 ≤ k + (j + 1) - 1):=fun hne=>by
        rw [if_neg hne] at hstep
        have hstep':compL (l.take (k + (j + 1))) = compL (l.take (k + j)) ++ [x]:=hstep
        refine ⟨by rw [hstep',List.length_append,← hm]; rfl,by rw [List.length_set,he],?_,?_,by omega⟩
        ·rw [hstep',← htk,← List.take_append_getElem (by rw [List.length_set]; exact b5),List.take_set_of_le (Nat.le_refl _)]
         simp
        ·rw [List.drop_set_of_lt (by omega)]; exact hdr2
       have hset:setNth (e.map A.str) m (.str x) = (e.set m x).map A.str:=by
        rw [setNth_eq,List.map_set]
       have em:(e.map A.str)[m]? = some (.str e[m]):=by
        rw [List.getElem?_map,List.getElem?_eq_getElem b5]; rfl
       cases h3:x == y with
       | true=>
        obtain rfl:x = y:=by simpa using h3
        rw [if_pos rfl] at hstep
        simp -implicitDefEqProofs (maxSteps:=600000) (disch:=(first | omega | decide)) only [go_sem,↓reduceIte,seval,hq',e1,e0,t0,b0,b3,h3,wrap_i64,List.length_map,Int.le_refl]
        exact ⟨⟨(j + 1,m,e),by show 1 ≤ j + 1; omega,by show k + (j + 1) ≤ _; omega,by show m = (compL (l.take (k + j + 1))).length; rw [hstep,hm],he,by show e.take m = compL (l.take (k + j + 1)); rw [hstep,htk],hdr2,by show m ≤ k + (j + 1) - 1; omega⟩,⟨⟨rfl,by simp⟩,rfl⟩,by show l.length - (j + 1) < l.length - j; omega⟩
       | false=>
        have hne:x ≠ y:=by simpa using h3
        simp -implicitDefEqProofs (maxSteps:=600000) (disch:=(first | omega | decide)) only [go_sem,↓reduceIte,seval,hq',e1,e0,t0,b0,b3,b4,h3,em,hset,wrap_i64,List.length_map,Int.le_refl]
        exact ⟨⟨(j + 1,m + 1,e.set m x),by show 1 ≤ j + 1; omega,by show k + (j + 1) ≤ _; omega,next (Ne.symm hne)⟩,⟨⟨by simp,by simp⟩,rfl⟩,by show l.length - (j + 1) < l.length - j; omega⟩
      ·have hq':¬ (j:Int) < ((l.length - k:Nat):Int):=by omega
       have b4:(m:Int) ≤ (l.length:Int):=by omega
       have tm:((l.length:Int) - (m:Int)).toNat = l.length - m:=by omega
       have hjl:k + j = l.length:=by omega
       rw [hjl,List.take_of_length_le (Nat.le_refl _)] at hm htk
       have b6:m + (l.length - m) = l.length:=by omega
       have b7:l.length ≤ e.length:=by omega
       have b8:(e.map A.str).drop l.length = []:=by rw [List.drop_of_length_le (by rw [List.length_map]; omega)]
       have tm0:((m:Int) - 0).toNat = m:=by omega
       simp -implicitDefEqProofs (maxSteps:=600000) (disch:=(first | omega | decide)) only [go_sem,↓reduceIte,seval,hq',b4,tm,tm0,b6,b7,b8,List.length_map,Int.le_refl]
       refine ⟨hm,?_⟩
       rw [List.map_append,← htk,List.map_take,List.map_replicate,htk,← hm]
    | false=>
     have hne:x ≠ y:=by simpa using h3
     simp -implicitDefEqProofs (maxSteps:=600000) (disch:=(first | omega | decide)) only [go_sem,↓reduceIte,seval,hlt',e1,e0,t0,b0,b1,h3,wrap_i64,List.length_map]
     exact ⟨⟨k + 1,by omega,hlt,next (Ne.symm hne)⟩,by simp,by show l.length - (k + 1) < l.length - k; omega⟩
   ·have hlt':¬ (k:Int) < (l.length:Int):=by omega
    have hc:compL l = l:=by rw [List.take_of_length_le (by omega)] at hd; exact hd
    rw [hc]
    simp -implicitDefEqProofs (maxSteps:=600000) (disch:=(first | omega | decide)) only [go_sem,↓reduceIte,seval,hlt',List.length_map]
    simp
theorem ok_slices_insertionSortCmpFunc_string:codeOK Tryz.prog T07 Tryz.f264.ntmps (Tryz.f264.body.getD .skip) = true:=by kernel_rfl
theorem c_ins1 (x:A):CallA Tryz.prog 264 [.slc [x],.int .i64 0,.int .i64 1,.fn 133 []] (· = .tup []):=by
 refine callA_of_body T07_ok mixed Tryz.func264 rfl (Nat.le_of_ble_eq_true rfl) ok_slices_insertionSortCmpFunc_string ?_
 unfold Tryz.f264
 simp -implicitDefEqProofs (maxSteps:=600000) (disch:=(first | omega | decide)) only [go_sem,↓reduceIte,seval,wrap_i64]
 refine wpA_loop [] (ι:=Unit) (fun _=>[(2,.int .i64 1),(8,.int .i64 1)]) (fun _=>[]) (fun _=>0) () (Nat.zero_le _) ?_ ?_
 ·simp -implicitDefEqProofs (maxSteps:=600000) (disch:=(first | omega | decide)) only [go_sem,↓reduceIte,seval]
 ·intro _
  simp -implicitDefEqProofs (maxSteps:=600000) (disch:=(first | omega | decide)) only [go_sem,↓reduceIte,seval,wrap_i64,resL_nil]
  try rfl
noncomputable def T08s:Tab:=T07.add 264 (entry (fun (x:List UInt8)=>[.slc [.str x],.int .i64 0,.int .i64 1,.fn 133 []]) (fun x=>True) (fun x=>.tup []))
theorem T08s_ok:TabOK Tryz.prog T08s:=T07_ok.add (callable_of Tryz.func264 (by kernel_rfl) (by kernel_rfl)) (entry_ok fun x h=>c_ins1 (.str x))
@[go_sem] theorem T08s_eff {g:FuncId}:T08s.eff g = false:=rfl
@[go_sem] theorem T08s_ords {n:Nat}:T08s.ords n = []:=rfl
theorem T08s_slices_insertionSortCmpFunc_string (x:List UInt8) (h:True):T08s.f 264 [.slc [.str x],.int .i64 0,.int .i64 1,.fn 133 []] = some (.tup []):=
 (Tab.add_eq:T08s.f 264 [.slc [.str x],.int .i64 0,.int .i64 1,.fn 133 []] = (entry (fun (x:List UInt8)=>[.slc [.str x],.int .i64 0,.int .i64 1,.fn 133 []]) (fun x=>True) (fun x=>.tup [])) [.slc [.str x],.int .i64 0,.int .i64 1,.fn 133 []]).trans (entry_eq (fun i j h=>by first | (cases i; cases j; rfl; done) | simpa [Prod.ext_iff,and_assoc] using h | (simp at h; omega) | (simp at h; exact Prod.ext h.1 (Prod.ext h.2.1 (by omega)))) x h)
@[go_sem] theorem t_ins1 {x:List UInt8}:T08s.f 264 [.slc [.str x],.int .i64 0,.int .i64 1,.fn 133 []] = some (.tup []):=T08s_slices_insertionSortCmpFunc_string x trivial
theorem ok_slices_pdqsortCmpFunc_string:codeOK Tryz.prog T08s Tryz.f237.ntmps (Tryz.f237.body.getD .skip) = true:=by kernel_rfl
theorem c_pdq1 (x:List UInt8) (n:Int):CallA Tryz.prog 237 [.slc [.str x],.int .i64 0,.int .i64 1,.int .i64 n,.fn 133 []] (· = .tup []):=by
 refine callA_of_body T08s_ok mixed Tryz.func237 rfl (Nat.le_of_ble_eq_true rfl) ok_slices_pdqsortCmpFunc_string ?_
 unfold Tryz.f237
 simp -implicitDefEqProofs (maxSteps:=600000) (disch:=(first | omega | decide)) only [go_sem,↓reduceIte,seval,wrap_i64]
 refine wpA_loop [0] (ι:=Unit) (fun _=>[(1,.int .i64 0),(2,.int .i64 1),(4,.fn 133 [])]) (fun _=>[]) (fun _=>0) () (Nat.zero_le _) ?_ ?_
 ·simp -implicitDefEqProofs (maxSteps:=600000) (disch:=(first | omega | decide)) only [go_sem,↓reduceIte,seval]
 ·intro _
  simp -implicitDefEqProofs (maxSteps:=600000) (disch:=(first | omega | decide)) only [go_sem,↓reduceIte,seval,wrap_i64,resL_nil]
  try rfl
theorem ok_math_bits_Len64:codeOK Tryz.prog T08s Tryz.f193.ntmps (Tryz.f193.body.getD .skip) = true:=by kernel_rfl
theorem c_len64:CallA Tryz.prog 193 [.int .u64 1] (· = .int .i64 1):=by
 refine callA_of_body T08s_ok mixed Tryz.func193 rfl (Nat.le_of_ble_eq_true rfl) ok_math_bits_Len64 ?_
 unfold Tryz.f193
 have w8:IntKind.u8.wrap 1 = 1:=by decide
 have w64:IntKind.i64.wrap 1 = 1:=by decide
 simp -implicitDefEqProofs (maxSteps:=600000) (disch:=(first | omega | decide)) only [go_sem,↓reduceIte,seval,w8,w64,encU8]
 try decide
noncomputable def T08t:Tab:=T08s.add 237 (entry (fun (v:List UInt8 × Int)=>[.slc [.str v.1],.int .i64 0,.int .i64 1,.int .i64 v.2,.fn 133 []]) (fun v=>True) (fun v=>.tup []))
theorem T08t_ok:TabOK Tryz.prog T08t:=T08s_ok.add (callable_of Tryz.func237 (by kernel_rfl) (by kernel_rfl)) (entry_ok fun v h=>c_pdq1 v.1 v.2)
theorem T08t_slices_pdqsortCmpFunc_string (v:List UInt8 × Int) (h:True):T08t.f 237 [.slc [.str v.1],.int .i64 0,.int .i64 1,.int .i64 v.2,.fn 133 []] = some (.tup []):=
 (Tab.add_eq:T08t.f 237 [.slc [.str v.1],.int .i64 0,.int .i64 1,.int .i64 v.2,.fn 133 []] = (entry (fun (v:List UInt8 × Int)=>[.slc [.str v.1],.int .i64 0,.int .i64 1,.int .i64 v.2,.fn 133 []]) (fun v=>True) (fun v=>.tup [])) [.slc [.str v.1],.int .i64 0,.int .i64 1,.int .i64 v.2,.fn 133 []]).trans (entry_eq (fun i j h=>by first | (cases i; cases j; rfl; done) | simpa [Prod.ext_iff,and_assoc] using h | (simp at h; omega) | (simp at h; exact Prod.ext h.1 (Prod.ext h.2.1 (by omega)))) v h)
@[go_sem] theorem t_pdq1 {x:List UInt8} {n:Int}:T08t.f 237 [.slc [.str x],.int .i64 0,.int .i64 1,.int .i64 n,.fn 133 []] = some (.tup []):=T08t_slices_pdqsortCmpFunc_string (x,n) trivial
noncomputable def T08u:Tab:=T08t.add 193 (entry (fun (u:Unit)=>[.int .u64 1]) (fun u=>True) (fun u=>.int .i64 1))
theorem T08u_ok:TabOK Tryz.prog T08u:=T08t_ok.add (callable_of Tryz.func193 (by kernel_rfl) (by kernel_rfl)) (entry_ok fun u h=>c_len64)
@[go_sem] theorem T08u_old {g:FuncId} {xs:List A} (h:g ≠ 193):T08u.f g xs = T08t.f g xs:=Tab.add_ne h
@[go_sem] theorem T08u_eff {g:FuncId}:T08u.eff g = false:=rfl
@[go_sem] theorem T08u_ords {n:Nat}:T08u.ords n = []:=rfl
theorem T08u_math_bits_Len64 (u:Unit) (h:True):T08u.f 193 [.int .u64 1] = some (.int .i64 1):=
 (Tab.add_eq:T08u.f 193 [.int .u64 1] = (entry (fun (u:Unit)=>[.int .u64 1]) (fun u=>True) (fun u=>.int .i64 1)) [.int .u64 1]).trans (entry_eq (fun i j h=>by first | (cases i; cases j; rfl; done) | simpa [Prod.ext_iff,and_assoc] using h | (simp at h; omega) | (simp at h; exact Prod.ext h.1 (Prod.ext h.2.1 (by omega)))) u h)
@[go_sem] theorem t_len64:T08u.f 193 [.int .u64 1] = some (.int .i64 1):=T08u_math_bits_Len64 () trivial
theorem ok_math_bits_Len:codeOK Tryz.prog T08u Tryz.f140.ntmps (Tryz.f140.body.getD .skip) = true:=by kernel_rfl
theorem c_len:CallA Tryz.prog 140 [.int .u64 1] (· = .int .i64 1):=by
 refine callA_of_body T08u_ok mixed Tryz.func140 rfl (Nat.le_of_ble_eq_true rfl) ok_math_bits_Len ?_
 unfold Tryz.f140
 simp -implicitDefEqProofs (maxSteps:=600000) (disch:=(first | omega | decide)) only [go_sem,↓reduceIte,seval]
noncomputable def T08v:Tab:=T08u.add 140 (entry (fun (u:Unit)=>[.int .u64 1]) (fun u=>True) (fun u=>.int .i64 1))
theorem T08v_ok:TabOK Tryz.prog T08v:=T08u_ok.add (callable_of Tryz.func140 (by kernel_rfl) (by kernel_rfl)) (entry_ok fun u h=>c_len)
@[go_sem] theorem T08v_old {g:FuncId} {xs:List A} (h:g ≠ 140):T08v.f g xs = T08u.f g xs:=Tab.add_ne h
@[go_sem] theorem T08v_eff {g:FuncId}:T08v.eff g = false:=rfl
@[go_sem] theorem T08v_frz {g:FuncId}:T08v.frz g = false:=rfl
@[go_sem] theorem T08v_ords {n:Nat}:T08v.ords n = []:=rfl
theorem T08v_math_bits_Len (u:Unit) (h:True):T08v.f 140 [.int .u64 1] = some (.int .i64 1):=
 (Tab.add_eq:T08v.f 140 [.int .u64 1] = (entry (fun (u:Unit)=>[.int .u64 1]) (fun u=>True) (fun u=>.int .i64 1)) [.int .u64 1]).trans (entry_eq (fun i j h=>by first | (cases i; cases j; rfl; done) | simpa [Prod.ext_iff,and_assoc] using h | (simp at h; omega) | (simp at h; exact Prod.ext h.1 (Prod.ext h.2.1 (by omega)))) u h)
@[go_sem] theorem t_len:T08v.f 140 [.int .u64 1] = some (.int .i64 1):=T08v_math_bits_Len () trivial
theorem ok_slices_SortFunc_string_string:codeOK Tryz.prog T08v Tryz.f199.ntmps (Tryz.f199.body.getD .skip) = true:=by kernel_rfl
theorem c_sort1 (x:List UInt8):CallA Tryz.prog 199 [.slc [.str x],.fn 133 []] (· = .tup []):=by
 refine callA_of_body T08v_ok mixed Tryz.func199 rfl (Nat.le_of_ble_eq_true rfl) ok_slices_SortFunc_string_string ?_
 unfold Tryz.f199
 have w64:IntKind.u64.wrap 1 = 1:=by decide
 simp -implicitDefEqProofs (maxSteps:=600000) (disch:=(first | omega | decide)) only [go_sem,↓reduceIte,seval,w64,resL_nil]
 try rfl
theorem c_comp1 (x:List UInt8):CallA Tryz.prog 200 [.slc [.str x]] (· = .slc [.str x]):=by
 refine callA_of_body T08v_ok mixed Tryz.func200 rfl (Nat.le_of_ble_eq_true rfl) (by kernel_rfl) ?_
 unfold Tryz.f200
 simp -implicitDefEqProofs (maxSteps:=600000) (disch:=(first | omega | decide)) only [go_sem,↓reduceIte,seval]
theorem repL_clip1 {E:Env} {es:List A} {ys:List A} {vs:List Value} (h:RepL E (.clip es :: ys) vs):RepL E (.slc es :: ys) vs:=by
 simp only [RepL] at h ⊢
 obtain ⟨v,vs',h1,h2,h3⟩:=h
 exact ⟨v,vs',h1,rep_clip_slc h2,h3⟩
abbrev StI:=List StrB ⊕ List UInt8
def stE:StI → List A
 | .inl l=>[.row 0 0 1 l.length false,.fn 133 []]
 | .inr x=>[.clip [.str x],.fn 133 []]
def stO:StI → List Go.Abs.Obj
 | .inl l=>[.row 1 (l.map StrB.enc)]
 | .inr _=>[]
def stK:StI → Prop
 | .inl l=>l.length < 4611686018427387904
 | .inr _=>True
noncomputable def stR:StI → A × List Go.Abs.Obj × List Nat
 | .inl l=>(.tup [],[.row 1 ((sortL cfS l).map StrB.enc)],[])
 | .inr _=>(.tup [],[],[])
theorem strB_inj (x y:StrB) (h:x.enc = y.enc):x = y:=Subtype.ext (by simpa [StrB.enc] using h)
theorem st_inj (i j:StI) (h:stE i = stE j) (h':stO i = stO j):i = j:=by
 cases i <;> cases j
 ·simp only [stO,List.cons.injEq,Go.Abs.Obj.row.injEq,true_and,and_true] at h'
  rw [map_inj strB_inj] at h'
  rw [h']
 ·simp [stO] at h'
 ·simp [stO] at h'
 ·simp [stE] at h
  rw [h]
abbrev CpI:=List (List UInt8) ⊕ List UInt8
def cpE:CpI → List A
 | .inl l=>[.row 0 0 1 l.length false]
 | .inr x=>[.clip [.str x]]
def cpO:CpI → List Go.Abs.Obj
 | .inl l=>[.row 1 (l.map A.str)]
 | .inr _=>[]
def cpK:CpI → Prop
 | .inl l=>l.length ≤ 4611686018427387903
 | .inr _=>True
def cpR:CpI → A × List Go.Abs.Obj × List Nat
 | .inl l=>(.row 0 0 1 (compL l).length false,[.row 1 ((compL l ++ List.replicate (l.length - (compL l).length) ([]:List UInt8)).map A.str)],[])
 | .inr x=>(.slc [.str x],[],[])
theorem cp_inj (i j:CpI) (h:cpE i = cpE j) (h':cpO i = cpO j):i = j:=by
 cases i <;> cases j
 ·simp only [cpO,List.cons.injEq,Go.Abs.Obj.row.injEq,true_and,and_true] at h'
  rw [map_str_inj] at h'
  rw [h']
 ·simp [cpO] at h'
 ·simp [cpO] at h'
 ·simp [cpE] at h
  rw [h]
noncomputable def E8a:Tab:=T08v.addH 199 (entryH stE stO stK stR)
noncomputable def E8b:Tab:=E8a.addH 200 (entryH cpE cpO cpK cpR)
noncomputable def E8:Tab:={ E8b with eff:=fun f=>f == 199 || f == 200 }
theorem stH (i:StI) (h:stK i):CallH Tryz.prog 199 (stE i) (stO i) (stR i).1 (stR i).2.1 (stR i).2.2:=by
 cases i with
 | inl l=>simpa only [stE,stO,stR] using c_SortFunc_Str l h
 | inr x=>simpa only [stE,stO,stR] using callH_pure (c_sort1 x) (fun E vs=>repL_clip1) rfl
theorem cpH (i:CpI) (h:cpK i):CallH Tryz.prog 200 (cpE i) (cpO i) (cpR i).1 (cpR i).2.1 (cpR i).2.2:=by
 cases i with
 | inl l=>simpa only [cpE,cpO,cpR] using c_Compact_Str l h
 | inr x=>simpa only [cpE,cpO,cpR] using callH_pure (c_comp1 x) (fun E vs=>repL_clip1) rfl
theorem E8a_ok:TabOK Tryz.prog E8a:=T08v_ok.addH (callable_of Tryz.func199 (by kernel_rfl) (by kernel_rfl)) (entryH_ok stH)
theorem E8b_ok:TabOK Tryz.prog E8b:=E8a_ok.addH (callable_of Tryz.func200 (by kernel_rfl) (by kernel_rfl)) (entryH_ok cpH)
theorem E8_ok:TabOK Tryz.prog E8:=⟨E8b_ok.f,E8b_ok.hp⟩
@[go_sem] theorem E8_eff {g:FuncId}:E8.eff g = (g == 199 || g == 200):=rfl
@[go_sem] theorem E8_frz {g:FuncId}:E8.frz g = T08v.frz g:=rfl
@[go_sem] theorem E8_fix {n:Nat}:E8.fix n = false:=rfl
@[go_sem] theorem E8_ords {n:Nat}:E8.ords n = []:=rfl
theorem E8_st (i:StI) (h:stK i):E8.hp 199 (stE i) (stO i) = some (stR i):=by
 have h1:E8b.hp 199 (stE i) (stO i) = E8a.hp 199 (stE i) (stO i):=Tab.addH_ne (by decide)
 have h2:E8a.hp 199 (stE i) (stO i) = entryH stE stO stK stR (stE i) (stO i):=Tab.addH_eq
 have h3:=entryH_eq (enc:=stE) (obs:=stO) (ok:=stK) (spec:=stR) (fun i j h h'=>st_inj i j h h') i h
 exact (show E8.hp 199 (stE i) (stO i) = E8b.hp 199 (stE i) (stO i) from rfl).trans (h1.trans (h2.trans h3))
theorem E8_cp (i:CpI) (h:cpK i):E8.hp 200 (cpE i) (cpO i) = some (cpR i):=by
 have h2:E8b.hp 200 (cpE i) (cpO i) = entryH cpE cpO cpK cpR (cpE i) (cpO i):=Tab.addH_eq
 have h3:=entryH_eq (enc:=cpE) (obs:=cpO) (ok:=cpK) (spec:=cpR) (fun i j h h'=>cp_inj i j h h') i h
 exact (show E8.hp 200 (cpE i) (cpO i) = E8b.hp 200 (cpE i) (cpO i) from rfl).trans (h2.trans h3)
def rawS (es:List (List UInt8)) (r:Rng):List (List UInt8):=es ++ (if r.op then [r.lo] else [r.lo,r.hi])
def rawE (es:List (List UInt8)) (l:List Rng):List (List UInt8):=l.foldl rawS es
theorem rawE_step (l:List Rng) (es:List (List UInt8)) (k:Nat) (h:k < l.length):rawE es (l.take (k + 1)) = rawS (rawE es (l.take k)) l[k]:=by
 unfold rawE
 rw [← List.take_append_getElem h,List.foldl_append]; rfl
theorem rawE_len:∀ (l:List Rng) (es:List (List UInt8)),es.length ≤ (rawE es l).length ∧ (rawE es l).length ≤ es.length + 2 * l.length
 | [],es=>by simp [rawE]
 | r :: l,es=>by
  have h1:=rawE_len l (rawS es r)
  have h2:es.length + 1 ≤ (rawS es r).length ∧ (rawS es r).length ≤ es.length + 2:=by
   unfold rawS; rw [List.length_append]; split <;> simp
  have e:rawE es (r :: l) = rawE (rawS es r) l:=rfl
  rw [e]; simp only [List.length_cons]; omega
theorem rawE_mem:∀ (l:List Rng) (es:List (List UInt8)) (x:List UInt8),x ∈ rawE es l ↔ x ∈ es ∨ ∃ r ∈ l,x = r.lo ∨ (r.op = false ∧ x = r.hi)
 | [],es,x=>by simp [rawE]
 | r :: l,es,x=>by
  have e:rawE es (r :: l) = rawE (rawS es r) l:=rfl
  rw [e,rawE_mem l]
  unfold rawS
  cases ho:r.op <;> simp [ho,or_assoc]
theorem rawE_app (a b:List Rng) (es:List (List UInt8)):rawE es (a ++ b) = rawE (rawE es a) b:=by unfold rawE; rw [List.foldl_append]
noncomputable def edgesT (a b:List Rng):List (List UInt8):=compL (sortT (rawE [[]] (a ++ b)))
def sh5 (E:List (List UInt8)):A:=if E.length = 1 then .clip [.str []] else .row 1 0 1 E.length false
def shH (E:List (List UInt8)):List Go.Abs.Obj:=if E.length = 1 then [] else [.box [.any,.any,.any],.row 1 (E.map .str)]
theorem sh_one {E:List (List UInt8)} (h:E.length = 1):sh5 E = .clip [.str []] ∧ shH E = []:=by simp [sh5,shH,h]
theorem sh_more {E:List (List UInt8)} (h:E.length ≠ 1):sh5 E = .row 1 0 1 E.length false ∧ shH E = [.box [.any,.any,.any],.row 1 (E.map .str)]:=by simp [sh5,shH,h]
theorem sh_under {E:List (List UInt8)}:(sh5 E).under (shH E).length = true:=by
 by_cases h:E.length = 1
 ·rw [(sh_one h).1]; simp [A.under]
 ·rw [(sh_more h).1,(sh_more h).2]; simp [A.under]
def accE (a b:List Rng) (o:Nat):List (List UInt8):=rawE [[]] (if o = 0 then [] else if o = 1 then a else a ++ b)
theorem accE0 (a b:List Rng):accE a b 0 = [[]]:=rfl
theorem acc_get (a b:List Rng) (o:Nat) (h:o < 2):∃ l,(List.drop o [A.slc (a.map Rng.enc),A.slc (b.map Rng.enc)]).head? = some (.slc (l.map Rng.enc)) ∧ rawE (accE a b o) l = accE a b (o + 1) ∧ (l = a ∨ l = b):=by
 rcases (by omega:o = 0 ∨ o = 1) with rfl | rfl
 ·exact ⟨a,rfl,rfl,.inl rfl⟩
 ·exact ⟨b,rfl,(rawE_app a b [[]]).symm,.inr rfl⟩
end Go.Proofs.YtjfdlpagcgpaoaaGreat
