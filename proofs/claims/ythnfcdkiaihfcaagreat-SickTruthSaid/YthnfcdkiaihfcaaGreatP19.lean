/- Part 19 of the proof: the tools and contracts. Conditions: none. -/
import Derived.Test.YthnfcdkiaihfcaaGreatP18
set_option linter.unusedVariables false
set_option linter.unusedSimpArgs false
namespace Go.Lift
open Go

abbrev i6 (n : Int) : AV := .int .i64 n

section
variable {P : Program} {R : AV → AHeap → Prop} {H : AHeap} {env : Env} {K : Env → AHeap → Prop}

theorem upd_at (env : Env) (t : Nat) (v : AV) (s : Nat) : upd env t v s = if s = t then v else env s := _root_.id rfl
theorem ienv1 (a : AV) : ienv [a] = upd (fun _ => .any) 0 a := by
  funext t; simp only [ienv, upd]; rcases t with _ | t <;> simp
theorem ienv0 : ienv [] = fun _ => .any := by funext t; simp [ienv]
theorem ienv2 (a b : AV) : ienv [a, b] = upd (upd (fun _ => .any) 0 a) 1 b := by
  funext t; simp only [ienv, upd]; rcases t with _ | _ | t <;> simp
theorem ienv3 (a b c : AV) : ienv [a, b, c] = upd (upd (upd (fun _ => .any) 0 a) 1 b) 2 c := by
  funext t; simp only [ienv, upd]; rcases t with _ | _ | _ | t <;> simp
theorem ienv4 (a b c d : AV) : ienv [a, b, c, d] = upd (upd (upd (upd (fun _ => .any) 0 a) 1 b) 2 c) 3 d := by
  funext t; simp only [ienv, upd]; rcases t with _ | _ | _ | _ | t <;> simp
theorem ienv5 (a b c d e : AV) : ienv [a, b, c, d, e] = upd (upd (upd (upd (upd (fun _ => .any) 0 a) 1 b) 2 c) 3 d) 4 e := by
  funext t; simp only [ienv, upd]; rcases t with _ | _ | _ | _ | _ | t <;> simp
theorem ienv6 (a b c d e f : AV) : ienv [a, b, c, d, e, f] = upd (upd (upd (upd (upd (upd (fun _ => .any) 0 a) 1 b) 2 c) 3 d) 4 e) 5 f := by
  funext t; simp only [ienv, upd]; rcases t with _ | _ | _ | _ | _ | _ | t <;> simp
theorem ienv7 (a b c d e f g : AV) : ienv [a, b, c, d, e, f, g] = upd (upd (upd (upd (upd (upd (upd (fun _ => .any) 0 a) 1 b) 2 c) 3 d) 4 e) 5 f) 6 g := by
  funext t; simp only [ienv, upd]; rcases t with _ | _ | _ | _ | _ | _ | _ | t <;> simp
theorem ienv8 (a b c d e f g h : AV) : ienv [a, b, c, d, e, f, g, h] = upd (upd (upd (upd (upd (upd (upd (upd (fun _ => .any) 0 a) 1 b) 2 c) 3 d) 4 e) 5 f) 6 g) 7 h := by
  funext t; simp only [ienv, upd]; rcases t with _ | _ | _ | _ | _ | _ | _ | _ | t <;> simp

/-- What comes behind an operation; standing still till its value is known. -/
def Cont (P : Program) (rest : List AOp) (K : Env → AHeap → Prop) (env : Env) (d : Nat) (r : AV) (H : AHeap) : Prop := aops P rest K (upd env d r) H
def Cont0 (P : Program) (rest : List AOp) (K : Env → AHeap → Prop) (env : Env) (r : AV) (H : AHeap) : Prop := aops P rest K env H
def gops (P : Program) (v : AV) (b : Bool) (d : Nat) (tag : Tag) (xs : List Opd) (rest : List AOp) (K : Env → AHeap → Prop) (env : Env) (H : AHeap) : Prop := match v with
  | .bool c => if c = b then aopV P tag (xs.map (ev env)) H (Cont P rest K env d) else aops P rest K (upd env d (.tup [])) H
  | .tup [] => aops P rest K (upd env d (.tup [])) H
  | _ => False
/-- A value that is there. -/
def opt (o : Option AV) (R : AV → AHeap → Prop) (H : AHeap) : Prop := ∃ r, o = some r ∧ R r H
theorem opt_some (r : AV) (R : AV → AHeap → Prop) (H : AHeap) : opt (some r) R H = R r H := by simp [opt]
theorem opt_of {o : Option AV} {r : AV} {R : AV → AHeap → Prop} {H : AHeap} (h : o = some r) (hR : R r H) : opt o R H := ⟨r, h, hR⟩
theorem k_cont (rest : List AOp) (K : Env → AHeap → Prop) (env : Env) (d : Nat) (r : AV) (H : AHeap) : Cont P rest K env d r H = aops P rest K (upd env d r) H := _root_.id rfl
theorem k_cont0 (rest : List AOp) (K : Env → AHeap → Prop) (env : Env) (r : AV) (H : AHeap) : Cont0 P rest K env r H = aops P rest K env H := _root_.id rfl
theorem aops_nil : aops P [] K env H = K env H := _root_.id rfl
theorem aops_go (d : Nat) (tag : Tag) (xs : List Opd) (rest : List AOp) : aops P (⟨some d, tag, xs, none⟩ :: rest) K env H = aopV P tag (xs.map (ev env)) H (Cont P rest K env d) := _root_.id rfl
theorem aops_go0 (tag : Tag) (xs : List Opd) (rest : List AOp) : aops P (⟨none, tag, xs, none⟩ :: rest) K env H = aopV P tag (xs.map (ev env)) H (Cont0 P rest K env) := _root_.id rfl
theorem aops_if (d : Nat) (tag : Tag) (xs : List Opd) (t : Nat) (b : Bool) (rest : List AOp) : aops P (⟨some d, tag, xs, some (t, b)⟩ :: rest) K env H = gops P (env t) b d tag xs rest K env H := _root_.id rfl
theorem g_tt (d : Nat) (tag : Tag) (xs : List Opd) (rest : List AOp) : gops P (.bool true) true d tag xs rest K env H = aopV P tag (xs.map (ev env)) H (Cont P rest K env d) := _root_.id rfl
theorem g_ff (d : Nat) (tag : Tag) (xs : List Opd) (rest : List AOp) : gops P (.bool false) false d tag xs rest K env H = aopV P tag (xs.map (ev env)) H (Cont P rest K env d) := _root_.id rfl
theorem g_tf (d : Nat) (tag : Tag) (xs : List Opd) (rest : List AOp) : gops P (.bool true) false d tag xs rest K env H = aops P rest K (upd env d (.tup [])) H := _root_.id rfl
theorem g_u (b : Bool) (d : Nat) (tag : Tag) (xs : List Opd) (rest : List AOp) : gops P (.tup []) b d tag xs rest K env H = aops P rest K (upd env d (.tup [])) H := _root_.id rfl
theorem g_ft (d : Nat) (tag : Tag) (xs : List Opd) (rest : List AOp) : gops P (.bool false) true d tag xs rest K env H = aops P rest K (upd env d (.tup [])) H := _root_.id rfl

/-- the draws -/
def popt (P : Program) (o : Option AV) (rest : List (Bool × AOp)) (K : Env → Prop) (env : Env) (d : Nat) (H : AHeap) : Prop := ∃ r, o = some r ∧ apre P rest (upd env d r) H K
def gpre (P : Program) (v : AV) (b : Bool) (fr : Bool) (d : Nat) (tag : Tag) (xs : List Opd) (rest : List (Bool × AOp)) (K : Env → Prop) (env : Env) (H : AHeap) : Prop := match v with
  | .bool c => if c = b then apre P ((fr, ⟨some d, tag, xs, none⟩) :: rest) env H K else apre P rest (upd env d (.tup [])) H K
  | .tup [] => apre P rest (upd env d (.tup [])) H K
  | _ => False
theorem apre_nil {K : Env → Prop} : apre P [] env H K = K env := _root_.id rfl
def pgo (P : Program) (c : Bool) (fr : Bool) (d : Nat) (tag : Tag) (xs : List AV) (rest : List (Bool × AOp)) (K : Env → Prop) (env : Env) (H : AHeap) : Prop := match c with
  | false => popt P (detV tag xs H) rest K env d H
  | true => ∃ r, (if fr then ∀ H', aopV P tag xs H' (fun r' H'' => r' = r ∧ H'' = H') else aopV P tag xs H (fun r' H'' => r' = r ∧ H'' = H)) ∧ apre P rest (upd env d r) H K
theorem apre_go {K : Env → Prop} (fr : Bool) (d : Nat) (tag : Tag) (xs : List Opd) (rest : List (Bool × AOp)) :
    apre P ((fr, ⟨some d, tag, xs, none⟩) :: rest) env H K = pgo P tag.isCall fr d tag (xs.map (ev env)) rest K env H := by
  simp only [apre, wantedA, pval, updO, popt, pgo]
  cases tag.isCall <;> simp
theorem pgo_det {K : Env → Prop} (fr : Bool) (d : Nat) (tag : Tag) (xs : List AV) (rest : List (Bool × AOp)) : pgo P false fr d tag xs rest K env H = popt P (detV tag xs H) rest K env d H := _root_.id rfl
theorem popt_some {K : Env → Prop} (r : AV) (rest : List (Bool × AOp)) (d : Nat) : popt P (some r) rest K env d H = apre P rest (upd env d r) H K := by simp [popt]
def wA (v : AV) (b : Bool) : Option Bool := match v with
  | .bool c => some (c == b)
  | .tup [] => some false
  | _ => none
theorem apre_if {K : Env → Prop} (fr : Bool) (d : Nat) (tag : Tag) (xs : List Opd) (t : Nat) (b : Bool) (rest : List (Bool × AOp)) :
    apre P ((fr, ⟨some d, tag, xs, some (t, b)⟩) :: rest) env H K = gpre P (env t) b fr d tag xs rest K env H := by
  show (match wantedA env (some (t, b)) with
    | some true => ∃ r, pval P fr ⟨some d, tag, xs, some (t, b)⟩ (xs.map (ev env)) H r ∧ apre P rest (upd env d r) H K
    | some false => apre P rest (upd env d (.tup [])) H K
    | none => False) = gpre P (env t) b fr d tag xs rest K env H
  rw [show wantedA env (some (t, b)) = wA (env t) b from rfl]
  generalize env t = v
  cases v with
  | bool c => cases c <;> cases b <;> rfl
  | tup l => cases l <;> rfl
  | _ => rfl
theorem gp_tt {K : Env → Prop} (fr : Bool) (d : Nat) (tag : Tag) (xs : List Opd) (rest : List (Bool × AOp)) : gpre P (.bool true) true fr d tag xs rest K env H = apre P ((fr, ⟨some d, tag, xs, none⟩) :: rest) env H K := _root_.id rfl
theorem gp_ff {K : Env → Prop} (fr : Bool) (d : Nat) (tag : Tag) (xs : List Opd) (rest : List (Bool × AOp)) : gpre P (.bool false) false fr d tag xs rest K env H = apre P ((fr, ⟨some d, tag, xs, none⟩) :: rest) env H K := _root_.id rfl
theorem gp_tf {K : Env → Prop} (fr : Bool) (d : Nat) (tag : Tag) (xs : List Opd) (rest : List (Bool × AOp)) : gpre P (.bool true) false fr d tag xs rest K env H = apre P rest (upd env d (.tup [])) H K := _root_.id rfl
theorem gp_u {K : Env → Prop} (b fr : Bool) (d : Nat) (tag : Tag) (xs : List Opd) (rest : List (Bool × AOp)) : gpre P (.tup []) b fr d tag xs rest K env H = apre P rest (upd env d (.tup [])) H K := _root_.id rfl
theorem gp_ft {K : Env → Prop} (fr : Bool) (d : Nat) (tag : Tag) (xs : List Opd) (rest : List (Bool × AOp)) : gpre P (.bool false) true fr d tag xs rest K env H = apre P rest (upd env d (.tup [])) H K := _root_.id rfl
/-- a call that only computes: the same in each heap. -/
def Pure (P : Program) (f : FuncId) (xs : List AV) (r : AV) : Prop := ∀ H, ACalls P f xs H fun r' H' => r' = r ∧ H' = H
theorem pgo_call {K : Env → Prop} {fr : Bool} {d : Nat} {f : FuncId} {xs : List AV} {rest : List (Bool × AOp)} {r : AV}
    (hp : Pure P f xs r) (h : apre P rest (upd env d r) H K) : pgo P true fr d (.call f) xs rest K env H := by
  refine ⟨r, ?_, h⟩
  cases fr
  · exact hp H
  · exact fun H' => hp H'
theorem Pure.go {f : FuncId} {xs : List AV} {r : AV} (hp : Pure P f xs r) (h : R r H) : ACalls P f xs H R := (hp H).mono (by rintro r' H' ⟨rfl, rfl⟩; exact h)

theorem w64 {x : Int} (h1 : -9223372036854775808 ≤ x) (h2 : x < 9223372036854775808) : IntKind.i64.wrap x = x := by
  simp only [IntKind.wrap, IntKind.signed, IntKind.bits]
  simp
  omega
theorem d_mov (x : AV) : detV .mov [x] H = some x := _root_.id rfl
theorem d_pick (t : Bool) (a b : AV) : detV .pick [.bool t, a, b] H = some (if t = true then a else b) := _root_.id rfl
theorem d_not (b : Bool) : detV .not [.bool b] H = some (.bool !b) := _root_.id rfl
theorem d_nilchk (b off : Nat) : detV .nilchk [.ptr b off] H = some (.ptr b off) := _root_.id rfl
theorem d_nilchk' (cs : List AV) : detV .nilchk [.elem cs] H = some (.elem cs) := _root_.id rfl
theorem d_conv (k k' : IntKind) (n : Int) : detV (.conv k) [.int k' n] H = some (.int k (k.wrap n)) := _root_.id rfl
theorem d_add (k : IntKind) (a b : Int) : detV (.bin .add) [.int k a, .int k b] H = some (.int k (k.wrap (a + b))) := by simp [detV, binInt]
theorem d_sub (k : IntKind) (a b : Int) : detV (.bin .sub) [.int k a, .int k b] H = some (.int k (k.wrap (a - b))) := by simp [detV, binInt]
theorem d_mul (k : IntKind) (a b : Int) : detV (.bin .mul) [.int k a, .int k b] H = some (.int k (k.wrap (a * b))) := by simp [detV, binInt]
theorem d_quo (k : IntKind) (a b : Int) : detV (.bin .quo) [.int k a, .int k b] H = if b = 0 then none else some (.int k (k.wrap (a.tdiv b))) := by simp [detV, binInt]
theorem d_rem (k : IntKind) (a b : Int) : detV (.bin .rem) [.int k a, .int k b] H = if b = 0 then none else some (.int k (a.tmod b)) := by simp [detV, binInt]
theorem d_shl (k k' : IntKind) (a b : Int) : detV (.bin .shl) [.int k a, .int k' b] H = if b < 0 then none else some (.int k (k.wrap (a * 2 ^ Nat.min b.toNat k.bits))) := by simp [detV, binInt]
theorem d_shr (k k' : IntKind) (a b : Int) : detV (.bin .shr) [.int k a, .int k' b] H = if b < 0 then none else some (.int k (a.fdiv (2 ^ Nat.min b.toNat k.bits))) := by simp [detV, binInt]
theorem d_and (k : IntKind) (a b : Int) : detV (.bin .and) [.int k a, .int k b] H = some (.int k (k.wrap ((BitVec.ofInt k.bits a &&& BitVec.ofInt k.bits b).toNat))) := by simp [detV, binInt]
theorem d_or (k : IntKind) (a b : Int) : detV (.bin .or) [.int k a, .int k b] H = some (.int k (k.wrap ((BitVec.ofInt k.bits a ||| BitVec.ofInt k.bits b).toNat))) := by simp [detV, binInt]
theorem d_andnot (k : IntKind) (a b : Int) : detV (.bin .andNot) [.int k a, .int k b] H = some (.int k (k.wrap ((BitVec.ofInt k.bits a &&& ~~~ BitVec.ofInt k.bits b).toNat))) := by simp [detV, binInt]
theorem d_eql (k : IntKind) (a b : Int) : detV (.bin .eql) [.int k a, .int k b] H = some (.bool (decide (a = b))) := by
  simp only [detV, binInt, if_true]; by_cases h : a = b
  · simp [h]
  · simp [h, beq_eq_false_iff_ne.2 h]
theorem d_neq (k : IntKind) (a b : Int) : detV (.bin .neq) [.int k a, .int k b] H = some (.bool (!decide (a = b))) := by
  simp only [detV, binInt, if_true, bne]; by_cases h : a = b
  · simp [h]
  · simp [h, beq_eq_false_iff_ne.2 h]
theorem d_lss (k : IntKind) (a b : Int) : detV (.bin .lss) [.int k a, .int k b] H = some (.bool (decide (a < b))) := by simp [detV, binInt]
theorem d_leq (k : IntKind) (a b : Int) : detV (.bin .leq) [.int k a, .int k b] H = some (.bool (decide (a ≤ b))) := by simp [detV, binInt]
theorem d_gtr (k : IntKind) (a b : Int) : detV (.bin .gtr) [.int k a, .int k b] H = some (.bool (decide (b < a))) := by simp [detV, binInt]
theorem d_geq (k : IntKind) (a b : Int) : detV (.bin .geq) [.int k a, .int k b] H = some (.bool (decide (b ≤ a))) := by simp [detV, binInt]
theorem d_eqb (a b : Bool) : detV (.binb .eql) [.bool a, .bool b] H = some (.bool (a == b)) := _root_.id rfl
theorem d_neqb (a b : Bool) : detV (.binb .neq) [.bool a, .bool b] H = some (.bool (a != b)) := _root_.id rfl
theorem d_mkfunc (fn : Fn) (n : Nat) (xs : List AV) : detV (.mkfunc fn n) xs H = some (.func fn (xs.take n) (xs.drop n)) := _root_.id rfl
theorem d_load (ag : Bool) (n : Nat) (p : AV) : detV (.load ag n) [p] H = (cellsAt H p).bind (takeV ag n) := _root_.id rfl
theorem d_fieldaddr (off b o : Nat) : detV (.fieldaddr off) [.ptr b o] H = some (.ptr b (o + off)) := _root_.id rfl
theorem d_fieldaddr' (off : Nat) (cs : List AV) : detV (.fieldaddr off) [.elem cs] H = some (.elem (cs.drop off)) := _root_.id rfl
theorem d_field_t (n off : Nat) (cs : List AV) : detV (.field true n off) [.agg cs] H = if off + n ≤ cs.length then some (.agg ((cs.drop off).take n)) else none := _root_.id rfl
theorem d_field_f (n off : Nat) (cs : List AV) : detV (.field false n off) [.agg cs] H = cs[off]? := _root_.id rfl
def elemO (sz : Nat) : Option (List AV) → Option AV
  | some e => if e.length = sz then some (.elem e) else none
  | none => none
theorem d_idxaddr (sz : Nat) (es : List (List AV)) (k : IntKind) (i : Int) : detV (.idxaddr sz) [.slice es, .int k i] H = if 0 ≤ i then elemO sz es[i.toNat]? else none := by
  simp only [detV, asSlice, Option.bind_some]
  split
  · cases es[i.toNat]? <;> rfl
  · rfl
theorem d_idxaddr_g (sz b cap : Nat) (es : List (List AV)) (k : IntKind) (i : Int) : detV (.idxaddr sz) [.grow b cap es, .int k i] H = if 0 ≤ i then elemO sz es[i.toNat]? else none := by
  simp only [detV, asSlice, Option.bind_some]
  split
  · cases es[i.toNat]? <;> rfl
  · rfl
theorem elemO_some (sz : Nat) (e : List AV) : elemO sz (some e) = if e.length = sz then some (.elem e) else none := _root_.id rfl
theorem d_idxaddr_m (sz b off len cap : Nat) (k : IntKind) (i : Int) : detV (.idxaddr sz) [.mslice b off len cap, .int k i] H = if 0 ≤ i ∧ i < (len : Int) then some (.ptr b (off + i.toNat * sz)) else none := _root_.id rfl
theorem d_arraddr (len sz b o : Nat) (k : IntKind) (i : Int) : detV (.arraddr len sz) [.ptr b o, .int k i] H = if 0 ≤ i ∧ i < (len : Int) then some (.ptr b (o + i.toNat * sz)) else none := _root_.id rfl
theorem d_arraddr' (len sz : Nat) (cs : List AV) (k : IntKind) (i : Int) : detV (.arraddr len sz) [.elem cs, .int k i] H = if 0 ≤ i ∧ i < (len : Int) then some (.elem (cs.drop (i.toNat * sz))) else none := _root_.id rfl
theorem d_idx_f (len sz : Nat) (cs : List AV) (k : IntKind) (i : Int) : detV (.idx len false sz) [.agg cs, .int k i] H = if 0 ≤ i ∧ i < (len : Int) then cs[i.toNat * sz]? else none := _root_.id rfl
theorem d_sub_s (sz : Nat) (es : List (List AV)) (k : IntKind) (h : Int) : detV (.sub sz) [.slice es, .int k h] H = if 0 ≤ h ∧ h ≤ (es.length : Int) then some (.slice (es.take h.toNat)) else none := _root_.id rfl
theorem d_sub_g (sz b cap : Nat) (es : List (List AV)) (k : IntKind) (h : Int) : detV (.sub sz) [.grow b cap es, .int k h] H = if 0 ≤ h ∧ h ≤ (es.length : Int) then some (.slice (es.take h.toNat)) else none := _root_.id rfl
theorem d_arrsub (len sz b o : Nat) (k : IntKind) (h : Int) : detV (.arrsub len sz) [.ptr b o, .int k h] H = if 0 ≤ h ∧ h ≤ (len : Int) then some (.mslice b o h.toNat len) else none := _root_.id rfl
theorem d_arrall (len sz b o : Nat) : detV (.arrall len sz) [.ptr b o] H = some (.mslice b o len len) := _root_.id rfl
theorem d_extract (i : Nat) (vs : List AV) : detV (.extract i) [.tup vs] H = vs[i]? := _root_.id rfl
theorem d_len (es : List (List AV)) : detV .len [.slice es] H = some (.int .i64 es.length) := _root_.id rfl
theorem d_len_g (b cap : Nat) (es : List (List AV)) : detV .len [.grow b cap es] H = some (.int .i64 es.length) := _root_.id rfl
theorem d_len_e : detV .len [.emp] H = some (.int .i64 0) := _root_.id rfl
theorem d_len_m (b off len cap : Nat) : detV .len [.mslice b off len cap] H = some (.int .i64 len) := _root_.id rfl
theorem d_min (k : IntKind) (a b : Int) : detV .min [.int k a, .int k b] H = some (.int k (if b < a then b else a)) := _root_.id rfl
theorem d_build (zs : List AV) (ps : List (Nat × Nat)) (xs : List AV) : detV (.build zs ps) xs H = (buildCells zs ps xs).map .agg := _root_.id rfl
theorem d_bslice0 (sz : Nat) : detV (.bslice sz) [] H = some .emp := _root_.id rfl
theorem d_bslice (sz : Nat) (x : AV) (xs : List AV) : detV (.bslice sz) (x :: xs) H = if (x :: xs).all (fun x => x.ok && x.cells.length == sz) = true then some (.slice ((x :: xs).map AV.cells)) else none := _root_.id rfl
theorem d_bs1 (k : IntKind) (n : Int) : detV (.bslice 1) [.int k n] H = some (.slice [[.int k n]]) := by simp [detV, AV.ok, AV.cells]
theorem d_bs2 (k : IntKind) (n m : Int) : detV (.bslice 1) [.int k n, .int k m] H = some (.slice [[.int k n], [.int k m]]) := by simp [detV, AV.ok, AV.cells]
theorem d_bsa (sz : Nat) (cs : List AV) : detV (.bslice sz) [.agg cs] H = if cs.length = sz then some (.slice [cs]) else none := by
  by_cases h : cs.length = sz <;> simp [detV, AV.ok, AV.cells, h]
theorem d_eqagg (i : Bool) (n : Nat) (xs ys : List AV) : detV (.eqagg i n) [.agg xs, .agg ys] H = if xs.length = n ∧ ys.length = n then (eqCells i xs ys).map .bool else none := _root_.id rfl

theorem v_mov (xs : List AV) : aopV P .mov xs H R = opt (detV .mov xs H) R H := _root_.id rfl
theorem v_pick (xs : List AV) : aopV P .pick xs H R = opt (detV .pick xs H) R H := _root_.id rfl
theorem v_not (xs : List AV) : aopV P .not xs H R = opt (detV .not xs H) R H := _root_.id rfl
theorem v_nilchk (xs : List AV) : aopV P .nilchk xs H R = opt (detV .nilchk xs H) R H := _root_.id rfl
theorem v_conv (k : IntKind) (xs : List AV) : aopV P (.conv k) xs H R = opt (detV (.conv k) xs H) R H := _root_.id rfl
theorem v_bin (o : BinOp) (xs : List AV) : aopV P (.bin o) xs H R = opt (detV (.bin o) xs H) R H := _root_.id rfl
theorem v_binb (o : BinOp) (xs : List AV) : aopV P (.binb o) xs H R = opt (detV (.binb o) xs H) R H := _root_.id rfl
theorem v_eqagg (i : Bool) (n : Nat) (xs : List AV) : aopV P (.eqagg i n) xs H R = opt (detV (.eqagg i n) xs H) R H := _root_.id rfl
theorem v_mkfunc (fn : Fn) (n : Nat) (xs : List AV) : aopV P (.mkfunc fn n) xs H R = opt (detV (.mkfunc fn n) xs H) R H := _root_.id rfl
theorem v_load (ag : Bool) (n : Nat) (xs : List AV) : aopV P (.load ag n) xs H R = opt (detV (.load ag n) xs H) R H := _root_.id rfl
theorem v_fieldaddr (o : Nat) (xs : List AV) : aopV P (.fieldaddr o) xs H R = opt (detV (.fieldaddr o) xs H) R H := _root_.id rfl
theorem v_field (ag : Bool) (n o : Nat) (xs : List AV) : aopV P (.field ag n o) xs H R = opt (detV (.field ag n o) xs H) R H := _root_.id rfl
theorem v_idxaddr (sz : Nat) (xs : List AV) : aopV P (.idxaddr sz) xs H R = opt (detV (.idxaddr sz) xs H) R H := _root_.id rfl
theorem v_arraddr (l sz : Nat) (xs : List AV) : aopV P (.arraddr l sz) xs H R = opt (detV (.arraddr l sz) xs H) R H := _root_.id rfl
theorem v_idx (l : Nat) (ag : Bool) (sz : Nat) (xs : List AV) : aopV P (.idx l ag sz) xs H R = opt (detV (.idx l ag sz) xs H) R H := _root_.id rfl
theorem v_sub (sz : Nat) (xs : List AV) : aopV P (.sub sz) xs H R = opt (detV (.sub sz) xs H) R H := _root_.id rfl
theorem v_arrsub (l sz : Nat) (xs : List AV) : aopV P (.arrsub l sz) xs H R = opt (detV (.arrsub l sz) xs H) R H := _root_.id rfl
theorem v_arrall (l sz : Nat) (xs : List AV) : aopV P (.arrall l sz) xs H R = opt (detV (.arrall l sz) xs H) R H := _root_.id rfl
theorem v_extract (i : Nat) (xs : List AV) : aopV P (.extract i) xs H R = opt (detV (.extract i) xs H) R H := _root_.id rfl
theorem v_len (xs : List AV) : aopV P .len xs H R = opt (detV .len xs H) R H := _root_.id rfl
theorem v_min (xs : List AV) : aopV P .min xs H R = opt (detV .min xs H) R H := _root_.id rfl
theorem v_build (zs : List AV) (ps : List (Nat × Nat)) (xs : List AV) : aopV P (.build zs ps) xs H R = opt (detV (.build zs ps) xs H) R H := _root_.id rfl
theorem v_bslice (sz : Nat) (xs : List AV) : aopV P (.bslice sz) xs H R = opt (detV (.bslice sz) xs H) R H := _root_.id rfl
theorem v_lookup (z : AV) (xs : List AV) : aopV P (.lookup z) xs H R = opt (detV (.lookup z) xs H) R H := _root_.id rfl
theorem v_box (x : AV) (hx : x.ok = true) (h : ∀ b, H b = none → R (.ptr b 0) (updH H b (.box x.cells))) : aopV P .box [x] H R := ⟨hx, h⟩
theorem v_alloc {zs : List AV} (h : ∀ b, H b = none → R (.ptr b 0) (updH H b (.box zs))) : aopV P (.alloc zs) [] H R := h
theorem v_call (f : FuncId) (xs : List AV) : aopV P (.call f) xs H R = ACalls P f xs H R := _root_.id rfl

theorem v_callv (g : FuncId) (fs cs xs : List AV) : aopV P .callv (.func (.func g) fs cs :: xs) H R = ACalls P g (fs ++ xs ++ cs) H R := _root_.id rfl
theorem take_t (n : Nat) (cs : List AV) (h : n ≤ cs.length) : takeV true n cs = some (.agg (cs.take n)) := by simp [takeV, h]
theorem take_f (n : Nat) (x : AV) (cs : List AV) : takeV false n (x :: cs) = some x := by simp [takeV]
theorem at_ptr {b off : Nat} {cs : List AV} (hb : H b = some (.box cs)) (h : off ≤ cs.length) : cellsAt H (.ptr b off) = some (cs.drop off) := by simp [cellsAt, hb, h]
theorem at_elem {cs : List AV} : cellsAt H (.elem cs) = some cs := by simp [cellsAt]

variable {N : Nat} {Q : AEx → Env → AHeap → Prop}
theorem x_skip : aexec P N .skip Q env H = Q .norm env H := _root_.id rfl
theorem x_label : aexec P N .label Q env H = Q .norm env H := _root_.id rfl
theorem x_ret : aexec P N .ret Q env H = Q .ret env H := _root_.id rfl
theorem x_exit (id : Nat) : aexec P N (.exit id) Q env H = Q (.exit id) env H := _root_.id rfl
def Kseq (P : Program) (N : Nat) (b : ACode) (Q : AEx → Env → AHeap → Prop) : AEx → Env → AHeap → Prop := aseq Q fun _ env' H' => aexec P N b Q env' H'
def xsel (P : Program) (N : Nat) (v : AV) (a b : ACode) (Q : AEx → Env → AHeap → Prop) (env : Env) (H : AHeap) : Prop := match v with
  | .bool c => if c = true then aexec P N a Q env H else aexec P N b Q env H
  | _ => False
theorem x_seq (a b : ACode) : aexec P N (.seq a b) Q env H = aexec P N a (Kseq P N b Q) env H := _root_.id rfl
theorem q_kseq_n (b : ACode) : Kseq P N b Q .norm env H = aexec P N b Q env H := _root_.id rfl
theorem q_kseq_r (b : ACode) : Kseq P N b Q .ret env H = Q .ret env H := _root_.id rfl
theorem q_kseq_e (b : ACode) (id : Nat) : Kseq P N b Q (.exit id) env H = Q (.exit id) env H := _root_.id rfl
theorem x_cond (t : Nat) (a b : ACode) : aexec P N (.cond (.t t) a b) Q env H = xsel P N (env t) a b Q env H := by
  simp only [aexec, ev, xsel]
  cases env t <;> simp
  rename_i c
  cases c <;> simp
theorem x_sel_t (a b : ACode) : xsel P N (.bool true) a b Q env H = aexec P N a Q env H := _root_.id rfl
theorem x_sel_f (a b : ACode) : xsel P N (.bool false) a b Q env H = aexec P N b Q env H := _root_.id rfl
theorem x_sel_any {c : Bool} {a b : ACode} (h1 : c = true → aexec P N a Q env H) (h2 : c = false → aexec P N b Q env H) : xsel P N (.bool c) a b Q env H := by
  cases c
  · exact h2 rfl
  · exact h1 rfl
theorem x_loop {b : ACode} (I : Nat → Env → AHeap → Prop) (k0 : Nat) (h0 : I k0 env H) (hs : ∀ k env H, I k env H → aexec P N b (aloop Q I k) env H) : aexec P N (.loop b) Q env H := ⟨I, ⟨k0, h0⟩, hs⟩
theorem x_block (id : Nat) (b : ACode) : aexec P N (.block id b) Q env H = aexec P N b (ablock id Q) env H := _root_.id rfl
theorem x_ops (l : List AOp) : aexec P N (.ops l) Q env H = aops P l (Q .norm) env H := _root_.id rfl
def Kdraw (P : Program) (t : ATr) (K : Env → AHeap → Prop) (H : AHeap) (env : Env) : Prop := atl P t K env H
theorem k_draw (t : ATr) (K : Env → AHeap → Prop) (H : AHeap) (env : Env) : Kdraw P t K H env = atl P t K env H := _root_.id rfl
theorem x_draw (p : List (Bool × AOp)) (t : ATr) : aexec P N (.draw p t) Q env H = apre P p env H (Kdraw P t (Q .norm) H) := _root_.id rfl
theorem q_block_n (id : Nat) : ablock id Q .norm env H = Q .norm env H := _root_.id rfl
theorem q_block_r (id : Nat) : ablock id Q .ret env H = Q .ret env H := _root_.id rfl
theorem q_block_e (id id' : Nat) : ablock id Q (.exit id') env H = if id' = id then Q .norm env H else Q (.exit id') env H := _root_.id rfl
theorem q_loop_n {I : Nat → Env → AHeap → Prop} {k : Nat} : aloop Q I k .norm env H = ∃ k', k' < k ∧ I k' env H := _root_.id rfl
theorem q_loop_r {I : Nat → Env → AHeap → Prop} {k : Nat} : aloop Q I k .ret env H = Q .ret env H := _root_.id rfl
theorem q_loop_e {I : Nat → Env → AHeap → Prop} {k id : Nat} : aloop Q I k (.exit id) env H = Q (.exit id) env H := _root_.id rfl
theorem l_done : atl P .done K env H = K env H := _root_.id rfl
theorem l_one (o : AOp) (us : List AOp) (t : ATr) : atl P (.one o us t) K env H = aop1 P o env H fun env' H' => stab us env' H' ∧ atl P t K env' H' := _root_.id rfl
theorem l_alt (a b : ATr) : atl P (.alt a b) K env H = (atl P a K env H ∧ atl P b K env H) := _root_.id rfl

/-- A function without deferred calls that returns one temporary, as it is. -/
theorem fin_ret (t : Nat) (hN : env N = .any) {Rr : AV → AHeap → Prop} (h : ∃ r' H2, Settle H (env t) H2 r' ∧ Rr r' H2) : fin P [.tmp t] N Rr .ret env H := by
  obtain ⟨r', H2, h1, h2⟩ := h
  exact ⟨H, .inl ⟨hN, rfl⟩, env t, rfl, r', H2, h1, h2⟩
theorem fin_ret' (t : Nat) (hN : env N = .any) {Rr : AV → AHeap → Prop} (h : Rr (env t) H) : fin P [.tmp t] N Rr .ret env H :=
  fin_ret t hN ⟨env t, H, Settle.refl (fun _ _ h => h), h⟩
theorem fin_ret2 (t s : Nat) (hN : env N = .any) {Rr : AV → AHeap → Prop} (h : ∃ r' H2, Settle H (.tup [env t, env s]) H2 r' ∧ Rr r' H2) : fin P [.tmp t, .tmp s] N Rr .ret env H := by
  obtain ⟨r', H2, h1, h2⟩ := h
  exact ⟨H, .inl ⟨hN, rfl⟩, _, rfl, r', H2, h1, h2⟩
end
end Go.Lift

