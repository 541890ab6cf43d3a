/- Parts of the library of texts, one after the other: K45, K46, K47, K48, K49, K50, K51, K52. -/
import Derived.Test.YtnjjkobijjdnbaaM4k
/- Package disk: calls of a disk in any state, and the reference's. -/
set_option linter.unusedVariables false
set_option linter.unusedSimpArgs false
set_option maxRecDepth 100000
set_option maxHeartbeats 4000000
namespace Go.Proofs.Ytnjjkobijjdnbaa
open Go
namespace D
noncomputable def cfgZ : Cfg := { cfgP with om := callC T8, omd := fun f => [46, 44, 34, 33].any (Nat.beq f) }
theorem cfgZ_ok : CfgOk Try.prog Γ cfgZ := { cfgP_ok with om := callC_calls T8_ok, fit := callC_fit T8_ok }
-- 
-- 
-- 
def fp_h21 : FP := ⟨[.ptr 0 0, .ty ity, .ty .str], [.cells [.ty .bool, .ty ity, .bz 0, .bz 1, .bz 2]], [.arr bty, .arr bty, .arr wp]⟩
abbrev cn_h21 (off : Int) (s : ByteArray) (o : Bool) (lf : Int) (n1 n2 m : Nat) (d v : List Int) (q : List (Ty.den wp)) : Prop := True
noncomputable def cr_h21 (off : Int) (s : ByteArray) (o : Bool) (lf : Int) (n1 n2 m : Nat) (d v : List Int) (q : List (Ty.den wp)) : Option Bool × V × Ob × Nm := (some (decide (cn_h21 off s o lf n1 n2 m d v q)), .any, [], [])
noncomputable def ct_h21 := Ct.by fp_h21 fun ⟨(_, off, s, _), ((o, lf, n1, n2, m, _), _), (d, v, q, _)⟩ => cr_h21 off s o lf n1 n2 m d v q
abbrev sf_h21 (off : Int) (s : ByteArray) (o : Bool) (lf : Int) (n1 n2 m : Nat) (d v : List Int) (q : List (Ty.den wp)) : Prop := SemF Try.prog Γ 21 (SP.vals fp_h21.sp ((), off, s, ())) (OP.vals fp_h21.op ((o, lf, n1, n2, m, ()), ())) (BP.vals fp_h21.bp (d, v, q, ())) (.any) ([]) ([])
noncomputable def ev_h21 (C : Cfg) (lv : List Nat) (off : Int) (s : ByteArray) (o : Bool) (lf : Int) (n1 n2 m : Nat) (d v : List Int) (q : List (Ty.den wp)) := evV Try.prog Γ C lv 21 (SP.vals fp_h21.sp ((), off, s, ())) (OP.vals fp_h21.op ((o, lf, n1, n2, m, ()), ())) (BP.vals fp_h21.bp (d, v, q, ()))
theorem cr_h21_ok (off : Int) (s : ByteArray) (o : Bool) (lf : Int) (n1 n2 m : Nat) (d v : List Int) (q : List (Ty.den wp)) (h : (cr_h21 off s o lf n1 n2 m d v q).1.getD true = true) : cn_h21 off s o lf n1 n2 m d v q := of_decide_eq_true h
theorem ct_h21_ok (H : ∀ (off : Int) (s : ByteArray) (o : Bool) (lf : Int) (n1 n2 m : Nat) (d v : List Int) (q : List (Ty.den wp)), cn_h21 off s o lf n1 n2 m d v q → sf_h21 off s o lf n1 n2 m d v q) : ∀ args ob nm c v ob1 nm1, ct_h21 args ob nm = some (c, v, ob1, nm1) → c.getD true = true → SemF Try.prog Γ 21 args ob nm v ob1 nm1 := Ct.by_ok fun ⟨(_, off, s, _), ((o, lf, n1, n2, m, _), _), (d, v, q, _)⟩ h => H off s o lf n1 n2 m d v q (cr_h21_ok off s o lf n1 n2 m d v q h)
theorem s21_eq (off : Int) (s : ByteArray) (o : Bool) (lf : Int) (n1 n2 m : Nat) (d v : List Int) (q : List (Ty.den wp)) : (ev_h21 cfgZ [] off s o lf n1 n2 m d v q).run = (bif (bif o then (331 : Int) else (0 : Int)) != (0 : Int) then (some (V.si IntKind.i64 (bif o then (331 : Int) else (0 : Int)), [some [V.sb o, V.si IntKind.i64 lf, V.bs true (0 : Nat) (0 : Nat) n1, V.bs true (1 : Nat) (0 : Nat) n2, V.bs true (2 : Nat) (0 : Nat) m]], [some (Bf.live (BC.arr bty d)), some (Bf.live (BC.arr bty v)), some (Bf.live (BC.arr wp q))])) else (bif !bif decide (off ≥ (0 : Int)) then bif decide ((Nat.cast (s.size) : Int) ≥ (0 : Int)) then bif decide (off ≤ (Nat.cast ((List.take n1 (List.drop (0) d)).length) : Int)) then decide ((Nat.cast (s.size) : Int) ≤ IntKind.i64.wrap ((Nat.cast ((List.take n1 (List.drop (0) d)).length) : Int) - off)) else false else false else false then (some (V.i IntKind.i64 (330 : Int), [some [V.sb o, V.si IntKind.i64 lf, V.bs true (0 : Nat) (0 : Nat) n1, V.bs true (1 : Nat) (0 : Nat) n2, V.bs true (2 : Nat) (0 : Nat) m]], [some (Bf.live (BC.arr bty d)), some (Bf.live (BC.arr bty v)), some (Bf.live (BC.arr wp q))])) else (bif decide ((m + 1) * 2 * 24 ≤ 281474976710656) then (bif decide ((0 : Int) ≤ off ∧ off ≤ (Nat.cast (n2) : Int) ∧ (Nat.cast (n2) : Int) ≤ (Nat.cast (n2) : Int)) && true then (some (V.i IntKind.i64 (0 : Int), [some [V.sb (bif lf == (0 : Int) then o else IntKind.i64.wrap (lf - (1 : Int)) == (0 : Int)), V.si IntKind.i64 (bif lf == (0 : Int) then lf else IntKind.i64.wrap (lf - (1 : Int))), V.bs true (0 : Nat) (bif lf == (0 : Int) then 0 else 0) (bif lf == (0 : Int) then n1 else n1), V.bs true (1 : Nat) (bif lf == (0 : Int) then 0 else 0) (bif lf == (0 : Int) then n2 else n2), V.bs true (3 : Nat) (bif lf == (0 : Int) then 0 else 0) (bif lf == (0 : Int) then m + (1 : Nat) else m + (1 : Nat))]], [some (Bf.live (BC.arr bty (bif lf == (0 : Int) then d else d))), some (Bf.live (BC.arr bty (bif lf == (0 : Int) then cpy v off.toNat n2 (bytesOf s) else cpy v off.toNat n2 (bytesOf s)))), some Bf.dead, some (Bf.live (BC.arr wp (bif lf == (0 : Int) then List.take m (List.drop (0) q) ++ [mkP off s] else List.take m (List.drop (0) q) ++ [mkP off s])))])) else none) else none))) := by kernel_rfl
def fp_h23 : FP := ⟨[.ptr 0 0], [.cells [.ty .bool, .ty ity, .bz 0, .bz 1, .bz 2]], [.arr bty, .arr bty, .arr wp]⟩
abbrev cn_h23 (o : Bool) (lf : Int) (n1 n2 m : Nat) (d v : List Int) (q : List (Ty.den wp)) : Prop := True
noncomputable def cr_h23 (o : Bool) (lf : Int) (n1 n2 m : Nat) (d v : List Int) (q : List (Ty.den wp)) : Option Bool × V × Ob × Nm := (some (decide (cn_h23 o lf n1 n2 m d v q)), .any, [], [])
noncomputable def ct_h23 := Ct.by fp_h23 fun ⟨(_, _), ((o, lf, n1, n2, m, _), _), (d, v, q, _)⟩ => cr_h23 o lf n1 n2 m d v q
abbrev sf_h23 (o : Bool) (lf : Int) (n1 n2 m : Nat) (d v : List Int) (q : List (Ty.den wp)) : Prop := SemF Try.prog Γ 23 (SP.vals fp_h23.sp ((), ())) (OP.vals fp_h23.op ((o, lf, n1, n2, m, ()), ())) (BP.vals fp_h23.bp (d, v, q, ())) (.any) ([]) ([])
noncomputable def ev_h23 (C : Cfg) (lv : List Nat) (o : Bool) (lf : Int) (n1 n2 m : Nat) (d v : List Int) (q : List (Ty.den wp)) := evV Try.prog Γ C lv 23 (SP.vals fp_h23.sp ((), ())) (OP.vals fp_h23.op ((o, lf, n1, n2, m, ()), ())) (BP.vals fp_h23.bp (d, v, q, ()))
theorem cr_h23_ok (o : Bool) (lf : Int) (n1 n2 m : Nat) (d v : List Int) (q : List (Ty.den wp)) (h : (cr_h23 o lf n1 n2 m d v q).1.getD true = true) : cn_h23 o lf n1 n2 m d v q := of_decide_eq_true h
theorem ct_h23_ok (H : ∀ (o : Bool) (lf : Int) (n1 n2 m : Nat) (d v : List Int) (q : List (Ty.den wp)), cn_h23 o lf n1 n2 m d v q → sf_h23 o lf n1 n2 m d v q) : ∀ args ob nm c v ob1 nm1, ct_h23 args ob nm = some (c, v, ob1, nm1) → c.getD true = true → SemF Try.prog Γ 23 args ob nm v ob1 nm1 := Ct.by_ok fun ⟨(_, _), ((o, lf, n1, n2, m, _), _), (d, v, q, _)⟩ h => H o lf n1 n2 m d v q (cr_h23_ok o lf n1 n2 m d v q h)
theorem s23_eq (o : Bool) (lf : Int) (n1 n2 m : Nat) (d v : List Int) (q : List (Ty.den wp)) : (ev_h23 cfgZ [] o lf n1 n2 m d v q).run = (bif (bif o then (331 : Int) else (0 : Int)) == (0 : Int) then (bif decide ((0 : Int) ≤ (0 : Int) ∧ (0 : Int) ≤ (0 : Int) ∧ (0 : Int) ≤ (Nat.cast (m) : Int)) && true then (some (V.si IntKind.i64 (bif o then (331 : Int) else (0 : Int)), [some [V.sb o, V.si IntKind.i64 lf, V.bs true (0 : Nat) (0 : Nat) n1, V.bs true (1 : Nat) (0 : Nat) n2, V.bs true (2 : Nat) (0 : Nat) (0 : Nat)]], [some (Bf.live (BC.arr bty (List.take (0) (List.drop (0) d) ++ List.take ((List.take n2 (List.drop (0) v)).length.min n1) (List.drop (0) (List.take n2 (List.drop (0) v))) ++ List.take (d.length - (0 + (List.take n2 (List.drop (0) v)).length.min n1)) (List.drop (0 + (List.take n2 (List.drop (0) v)).length.min n1) d)))), some (Bf.live (BC.arr bty v)), some (Bf.live (BC.arr wp (List.take (0) (List.drop (0) q) ++ List.take m (List.drop (0) (List.replicate m wp.dflt)) ++ List.take (q.length - (0 + m)) (List.drop (0 + m) q))))])) else none) else (some (V.si IntKind.i64 (bif o then (331 : Int) else (0 : Int)), [some [V.sb o, V.si IntKind.i64 lf, V.bs true (0 : Nat) (0 : Nat) n1, V.bs true (1 : Nat) (0 : Nat) n2, V.bs true (2 : Nat) (0 : Nat) m]], [some (Bf.live (BC.arr bty d)), some (Bf.live (BC.arr bty v)), some (Bf.live (BC.arr wp q))]))) := by kernel_rfl
def fp_h14 : FP := ⟨[.ptr 0 0, .ty ity, .ty ity], [.cells [.ty .bool, .ty ity, .bz 0, .bz 1, .bz 2]], [.arr bty, .arr bty, .arr wp]⟩
abbrev cn_h14 (off k : Int) (o : Bool) (lf : Int) (n1 n2 m : Nat) (d v : List Int) (q : List (Ty.den wp)) : Prop := True
noncomputable def cr_h14 (off k : Int) (o : Bool) (lf : Int) (n1 n2 m : Nat) (d v : List Int) (q : List (Ty.den wp)) : Option Bool × V × Ob × Nm := (some (decide (cn_h14 off k o lf n1 n2 m d v q)), .any, [], [])
noncomputable def ct_h14 := Ct.by fp_h14 fun ⟨(_, off, k, _), ((o, lf, n1, n2, m, _), _), (d, v, q, _)⟩ => cr_h14 off k o lf n1 n2 m d v q
abbrev sf_h14 (off k : Int) (o : Bool) (lf : Int) (n1 n2 m : Nat) (d v : List Int) (q : List (Ty.den wp)) : Prop := SemF Try.prog Γ 14 (SP.vals fp_h14.sp ((), off, k, ())) (OP.vals fp_h14.op ((o, lf, n1, n2, m, ()), ())) (BP.vals fp_h14.bp (d, v, q, ())) (.any) ([]) ([])
noncomputable def ev_h14 (C : Cfg) (lv : List Nat) (off k : Int) (o : Bool) (lf : Int) (n1 n2 m : Nat) (d v : List Int) (q : List (Ty.den wp)) := evV Try.prog Γ C lv 14 (SP.vals fp_h14.sp ((), off, k, ())) (OP.vals fp_h14.op ((o, lf, n1, n2, m, ()), ())) (BP.vals fp_h14.bp (d, v, q, ()))
theorem cr_h14_ok (off k : Int) (o : Bool) (lf : Int) (n1 n2 m : Nat) (d v : List Int) (q : List (Ty.den wp)) (h : (cr_h14 off k o lf n1 n2 m d v q).1.getD true = true) : cn_h14 off k o lf n1 n2 m d v q := of_decide_eq_true h
theorem ct_h14_ok (H : ∀ (off k : Int) (o : Bool) (lf : Int) (n1 n2 m : Nat) (d v : List Int) (q : List (Ty.den wp)), cn_h14 off k o lf n1 n2 m d v q → sf_h14 off k o lf n1 n2 m d v q) : ∀ args ob nm c v ob1 nm1, ct_h14 args ob nm = some (c, v, ob1, nm1) → c.getD true = true → SemF Try.prog Γ 14 args ob nm v ob1 nm1 := Ct.by_ok fun ⟨(_, off, k, _), ((o, lf, n1, n2, m, _), _), (d, v, q, _)⟩ h => H off k o lf n1 n2 m d v q (cr_h14_ok off k o lf n1 n2 m d v q h)
theorem s14_eq (off k : Int) (o : Bool) (lf : Int) (n1 n2 m : Nat) (d v : List Int) (q : List (Ty.den wp)) : (ev_h14 cfgZ [] off k o lf n1 n2 m d v q).run = (bif (bif o then (331 : Int) else (0 : Int)) != (0 : Int) then (some (V.tup [V.s (ByteArray.mk #[]), V.si IntKind.i64 (bif o then (331 : Int) else (0 : Int))], [some [V.sb o, V.si IntKind.i64 lf, V.bs true (0 : Nat) (0 : Nat) n1, V.bs true (1 : Nat) (0 : Nat) n2, V.bs true (2 : Nat) (0 : Nat) m]], [some (Bf.live (BC.arr bty d)), some (Bf.live (BC.arr bty v)), some (Bf.live (BC.arr wp q))])) else (bif !bif decide (off ≥ (0 : Int)) then bif decide (k ≥ (0 : Int)) then bif decide (off ≤ (Nat.cast ((List.take n1 (List.drop (0) d)).length) : Int)) then decide (k ≤ IntKind.i64.wrap ((Nat.cast ((List.take n1 (List.drop (0) d)).length) : Int) - off)) else false else false else false then (some (V.tup [V.s (ByteArray.mk #[]), V.i IntKind.i64 (330 : Int)], [some [V.sb o, V.si IntKind.i64 lf, V.bs true (0 : Nat) (0 : Nat) n1, V.bs true (1 : Nat) (0 : Nat) n2, V.bs true (2 : Nat) (0 : Nat) m]], [some (Bf.live (BC.arr bty d)), some (Bf.live (BC.arr bty v)), some (Bf.live (BC.arr wp q))])) else (bif decide ((0 : Int) ≤ off ∧ off ≤ (Nat.cast (n2) : Int) ∧ (Nat.cast (n2) : Int) ≤ (Nat.cast (n2) : Int)) then (bif decide ((0 : Int) ≤ (0 : Int) ∧ (0 : Int) ≤ k ∧ k ≤ (Nat.cast ((((Nat.cast (n2) : Int)).toNat - off.toNat)) : Int)) then (some (V.tup [V.ss (strOfNums (List.take (k.toNat - (0 : Nat)) (List.drop (0 + off.toNat + (0 : Nat)) v))), V.i IntKind.i64 (0 : Int)], [some [V.sb o, V.si IntKind.i64 lf, V.bs true (0 : Nat) (0 : Nat) n1, V.bs true (1 : Nat) (0 : Nat) n2, V.bs true (2 : Nat) (0 : Nat) m]], [some (Bf.live (BC.arr bty d)), some (Bf.live (BC.arr bty v)), some (Bf.live (BC.arr wp q))])) else none) else none))) := by kernel_rfl
def fp_h24 : FP := ⟨[.ptr 0 0, .ty ity], [.cells [.ty .bool, .ty ity, .bz 0, .bz 1, .bz 2]], [.arr bty, .arr bty, .arr wp]⟩
abbrev cn_h24 (k : Int) (o : Bool) (lf : Int) (n1 n2 m : Nat) (d v : List Int) (q : List (Ty.den wp)) : Prop := True
noncomputable def cr_h24 (k : Int) (o : Bool) (lf : Int) (n1 n2 m : Nat) (d v : List Int) (q : List (Ty.den wp)) : Option Bool × V × Ob × Nm := (some (decide (cn_h24 k o lf n1 n2 m d v q)), .any, [], [])
noncomputable def ct_h24 := Ct.by fp_h24 fun ⟨(_, k, _), ((o, lf, n1, n2, m, _), _), (d, v, q, _)⟩ => cr_h24 k o lf n1 n2 m d v q
abbrev sf_h24 (k : Int) (o : Bool) (lf : Int) (n1 n2 m : Nat) (d v : List Int) (q : List (Ty.den wp)) : Prop := SemF Try.prog Γ 24 (SP.vals fp_h24.sp ((), k, ())) (OP.vals fp_h24.op ((o, lf, n1, n2, m, ()), ())) (BP.vals fp_h24.bp (d, v, q, ())) (.any) ([]) ([])
noncomputable def ev_h24 (C : Cfg) (lv : List Nat) (k : Int) (o : Bool) (lf : Int) (n1 n2 m : Nat) (d v : List Int) (q : List (Ty.den wp)) := evV Try.prog Γ C lv 24 (SP.vals fp_h24.sp ((), k, ())) (OP.vals fp_h24.op ((o, lf, n1, n2, m, ()), ())) (BP.vals fp_h24.bp (d, v, q, ()))
theorem cr_h24_ok (k : Int) (o : Bool) (lf : Int) (n1 n2 m : Nat) (d v : List Int) (q : List (Ty.den wp)) (h : (cr_h24 k o lf n1 n2 m d v q).1.getD true = true) : cn_h24 k o lf n1 n2 m d v q := of_decide_eq_true h
theorem ct_h24_ok (H : ∀ (k : Int) (o : Bool) (lf : Int) (n1 n2 m : Nat) (d v : List Int) (q : List (Ty.den wp)), cn_h24 k o lf n1 n2 m d v q → sf_h24 k o lf n1 n2 m d v q) : ∀ args ob nm c v ob1 nm1, ct_h24 args ob nm = some (c, v, ob1, nm1) → c.getD true = true → SemF Try.prog Γ 24 args ob nm v ob1 nm1 := Ct.by_ok fun ⟨(_, k, _), ((o, lf, n1, n2, m, _), _), (d, v, q, _)⟩ h => H k o lf n1 n2 m d v q (cr_h24_ok k o lf n1 n2 m d v q h)
theorem s24_eq (k : Int) (o : Bool) (lf : Int) (n1 n2 m : Nat) (d v : List Int) (q : List (Ty.den wp)) : (ev_h24 cfgZ [] k o lf n1 n2 m d v q).run = (bif (bif o then (331 : Int) else (0 : Int)) != (0 : Int) then (some (V.si IntKind.i64 (bif o then (331 : Int) else (0 : Int)), [some [V.sb o, V.si IntKind.i64 lf, V.bs true (0 : Nat) (0 : Nat) n1, V.bs true (1 : Nat) (0 : Nat) n2, V.bs true (2 : Nat) (0 : Nat) m]], [some (Bf.live (BC.arr bty d)), some (Bf.live (BC.arr bty v)), some (Bf.live (BC.arr wp q))])) else (bif decide (k < (0 : Int)) then (some (V.i IntKind.i64 (2 : Int), [some [V.sb o, V.si IntKind.i64 lf, V.bs true (0 : Nat) (0 : Nat) n1, V.bs true (1 : Nat) (0 : Nat) n2, V.bs true (2 : Nat) (0 : Nat) m]], [some (Bf.live (BC.arr bty d)), some (Bf.live (BC.arr bty v)), some (Bf.live (BC.arr wp q))])) else (some (V.i IntKind.i64 (0 : Int), [some [V.sb (k == (0 : Int)), V.si IntKind.i64 k, V.bs true (0 : Nat) (0 : Nat) n1, V.bs true (1 : Nat) (0 : Nat) n2, V.bs true (2 : Nat) (0 : Nat) m]], [some (Bf.live (BC.arr bty d)), some (Bf.live (BC.arr bty v)), some (Bf.live (BC.arr wp q))])))) := by kernel_rfl
def fp_h30 : FP := ⟨[.ptr 0 0, .ty ity, .ty .str], [.cells [.bz 0, .bz 1, .ty .bool, .ty ity]], [.arr bty, .arr wp]⟩
abbrev cn_h30 (off : Int) (s : ByteArray) (n3 m3 : Nat) (dn : Bool) (lf : Int) (d : List Int) (q : List (Ty.den wp)) : Prop := True
noncomputable def cr_h30 (off : Int) (s : ByteArray) (n3 m3 : Nat) (dn : Bool) (lf : Int) (d : List Int) (q : List (Ty.den wp)) : Option Bool × V × Ob × Nm := (some (decide (cn_h30 off s n3 m3 dn lf d q)), .any, [], [])
noncomputable def ct_h30 := Ct.by fp_h30 fun ⟨(_, off, s, _), ((n3, m3, dn, lf, _), _), (d, q, _)⟩ => cr_h30 off s n3 m3 dn lf d q
abbrev sf_h30 (off : Int) (s : ByteArray) (n3 m3 : Nat) (dn : Bool) (lf : Int) (d : List Int) (q : List (Ty.den wp)) : Prop := SemF Try.prog Γ 30 (SP.vals fp_h30.sp ((), off, s, ())) (OP.vals fp_h30.op ((n3, m3, dn, lf, ()), ())) (BP.vals fp_h30.bp (d, q, ())) (.any) ([]) ([])
noncomputable def ev_h30 (C : Cfg) (lv : List Nat) (off : Int) (s : ByteArray) (n3 m3 : Nat) (dn : Bool) (lf : Int) (d : List Int) (q : List (Ty.den wp)) := evV Try.prog Γ C lv 30 (SP.vals fp_h30.sp ((), off, s, ())) (OP.vals fp_h30.op ((n3, m3, dn, lf, ()), ())) (BP.vals fp_h30.bp (d, q, ()))
theorem cr_h30_ok (off : Int) (s : ByteArray) (n3 m3 : Nat) (dn : Bool) (lf : Int) (d : List Int) (q : List (Ty.den wp)) (h : (cr_h30 off s n3 m3 dn lf d q).1.getD true = true) : cn_h30 off s n3 m3 dn lf d q := of_decide_eq_true h
theorem ct_h30_ok (H : ∀ (off : Int) (s : ByteArray) (n3 m3 : Nat) (dn : Bool) (lf : Int) (d : List Int) (q : List (Ty.den wp)), cn_h30 off s n3 m3 dn lf d q → sf_h30 off s n3 m3 dn lf d q) : ∀ args ob nm c v ob1 nm1, ct_h30 args ob nm = some (c, v, ob1, nm1) → c.getD true = true → SemF Try.prog Γ 30 args ob nm v ob1 nm1 := Ct.by_ok fun ⟨(_, off, s, _), ((n3, m3, dn, lf, _), _), (d, q, _)⟩ h => H off s n3 m3 dn lf d q (cr_h30_ok off s n3 m3 dn lf d q h)
theorem s30_eq (off : Int) (s : ByteArray) (n3 m3 : Nat) (dn : Bool) (lf : Int) (d : List Int) (q : List (Ty.den wp)) : (ev_h30 cfgZ [] off s n3 m3 dn lf d q).run = (bif dn then (some (V.i IntKind.i64 (331 : Int), [some [V.bs true (0 : Nat) (0 : Nat) n3, V.bs true (1 : Nat) (0 : Nat) m3, V.sb dn, V.si IntKind.i64 lf]], [some (Bf.live (BC.arr bty d)), some (Bf.live (BC.arr wp q))])) else (bif decide (off < (0 : Int)) then (some (V.i IntKind.i64 (330 : Int), [some [V.bs true (0 : Nat) (0 : Nat) n3, V.bs true (1 : Nat) (0 : Nat) m3, V.sb dn, V.si IntKind.i64 lf]], [some (Bf.live (BC.arr bty d)), some (Bf.live (BC.arr wp q))])) else (bif decide (off > (Nat.cast (n3) : Int)) then (some (V.i IntKind.i64 (330 : Int), [some [V.bs true (0 : Nat) (0 : Nat) n3, V.bs true (1 : Nat) (0 : Nat) m3, V.sb dn, V.si IntKind.i64 lf]], [some (Bf.live (BC.arr bty d)), some (Bf.live (BC.arr wp q))])) else (bif decide ((Nat.cast (s.size) : Int) > IntKind.i64.wrap ((Nat.cast (n3) : Int) - off)) then (some (V.i IntKind.i64 (330 : Int), [some [V.bs true (0 : Nat) (0 : Nat) n3, V.bs true (1 : Nat) (0 : Nat) m3, V.sb dn, V.si IntKind.i64 lf]], [some (Bf.live (BC.arr bty d)), some (Bf.live (BC.arr wp q))])) else (bif decide ((m3 + 1) * 2 * 24 ≤ 281474976710656) then (bif decide (lf > (0 : Int)) then (bif IntKind.i64.wrap (lf - (1 : Int)) == (0 : Int) then (some (V.i IntKind.i64 (0 : Int), [some [V.bs true (0 : Nat) (0 : Nat) n3, V.bs true (2 : Nat) (0 : Nat) (m3 + (1 : Nat)), V.b true, V.si IntKind.i64 (IntKind.i64.wrap (lf - (1 : Int)))]], [some (Bf.live (BC.arr bty d)), some Bf.dead, some (Bf.live (BC.arr wp (List.take m3 (List.drop (0) q) ++ [mkP off s])))])) else (some (V.i IntKind.i64 (0 : Int), [some [V.bs true (0 : Nat) (0 : Nat) n3, V.bs true (2 : Nat) (0 : Nat) (m3 + (1 : Nat)), V.sb dn, V.si IntKind.i64 (IntKind.i64.wrap (lf - (1 : Int)))]], [some (Bf.live (BC.arr bty d)), some Bf.dead, some (Bf.live (BC.arr wp (List.take m3 (List.drop (0) q) ++ [mkP off s])))]))) else (some (V.i IntKind.i64 (0 : Int), [some [V.bs true (0 : Nat) (0 : Nat) n3, V.bs true (2 : Nat) (0 : Nat) (m3 + (1 : Nat)), V.sb dn, V.si IntKind.i64 lf]], [some (Bf.live (BC.arr bty d)), some Bf.dead, some (Bf.live (BC.arr wp (List.take m3 (List.drop (0) q) ++ [mkP off s])))]))) else none))))) := by kernel_rfl
def fp_h31 : FP := ⟨[.ptr 0 0], [.cells [.bz 0, .bz 1, .ty .bool, .ty ity]], [.arr bty, .arr wp]⟩
abbrev cn_h31 (n3 m3 : Nat) (dn : Bool) (lf : Int) (d : List Int) (q : List (Ty.den wp)) : Prop := True
noncomputable def cr_h31 (n3 m3 : Nat) (dn : Bool) (lf : Int) (d : List Int) (q : List (Ty.den wp)) : Option Bool × V × Ob × Nm := (some (decide (cn_h31 n3 m3 dn lf d q)), .any, [], [])
noncomputable def ct_h31 := Ct.by fp_h31 fun ⟨(_, _), ((n3, m3, dn, lf, _), _), (d, q, _)⟩ => cr_h31 n3 m3 dn lf d q
abbrev sf_h31 (n3 m3 : Nat) (dn : Bool) (lf : Int) (d : List Int) (q : List (Ty.den wp)) : Prop := SemF Try.prog Γ 31 (SP.vals fp_h31.sp ((), ())) (OP.vals fp_h31.op ((n3, m3, dn, lf, ()), ())) (BP.vals fp_h31.bp (d, q, ())) (.any) ([]) ([])
noncomputable def ev_h31 (C : Cfg) (lv : List Nat) (n3 m3 : Nat) (dn : Bool) (lf : Int) (d : List Int) (q : List (Ty.den wp)) := evV Try.prog Γ C lv 31 (SP.vals fp_h31.sp ((), ())) (OP.vals fp_h31.op ((n3, m3, dn, lf, ()), ())) (BP.vals fp_h31.bp (d, q, ()))
theorem cr_h31_ok (n3 m3 : Nat) (dn : Bool) (lf : Int) (d : List Int) (q : List (Ty.den wp)) (h : (cr_h31 n3 m3 dn lf d q).1.getD true = true) : cn_h31 n3 m3 dn lf d q := of_decide_eq_true h
theorem ct_h31_ok (H : ∀ (n3 m3 : Nat) (dn : Bool) (lf : Int) (d : List Int) (q : List (Ty.den wp)), cn_h31 n3 m3 dn lf d q → sf_h31 n3 m3 dn lf d q) : ∀ args ob nm c v ob1 nm1, ct_h31 args ob nm = some (c, v, ob1, nm1) → c.getD true = true → SemF Try.prog Γ 31 args ob nm v ob1 nm1 := Ct.by_ok fun ⟨(_, _), ((n3, m3, dn, lf, _), _), (d, q, _)⟩ h => H n3 m3 dn lf d q (cr_h31_ok n3 m3 dn lf d q h)
theorem s31_eq (n3 m3 : Nat) (dn : Bool) (lf : Int) (d : List Int) (q : List (Ty.den wp)) : (ev_h31 cfgZ [] n3 m3 dn lf d q).run = (bif dn then (some (V.i IntKind.i64 (331 : Int), [some [V.bs true (0 : Nat) (0 : Nat) n3, V.bs true (1 : Nat) (0 : Nat) m3, V.sb dn, V.si IntKind.i64 lf]], [some (Bf.live (BC.arr bty d)), some (Bf.live (BC.arr wp q))])) else (bif decide (cn_g34 n3 m3 dn lf d q) then (some (V.i IntKind.i64 (0 : Int), [some [V.bs true (2 : Nat) (0 : Nat) n3, V.lst Tag.full [], V.sb dn, V.si IntKind.i64 lf]], [some (Bf.live (BC.arr bty d)), some (Bf.live (BC.arr wp q)), some (Bf.live (BC.arr bty (apN q m3 d)))])) else none)) := by kernel_rfl
def fp_h20 : FP := ⟨[.ptr 0 0, .ty ity, .ty ity], [.cells [.bz 0, .bz 1, .ty .bool, .ty ity]], [.arr bty, .arr wp]⟩
abbrev cn_h20 (off k : Int) (n3 m3 : Nat) (dn : Bool) (lf : Int) (d : List Int) (q : List (Ty.den wp)) : Prop := True
noncomputable def cr_h20 (off k : Int) (n3 m3 : Nat) (dn : Bool) (lf : Int) (d : List Int) (q : List (Ty.den wp)) : Option Bool × V × Ob × Nm := (some (decide (cn_h20 off k n3 m3 dn lf d q)), .any, [], [])
noncomputable def ct_h20 := Ct.by fp_h20 fun ⟨(_, off, k, _), ((n3, m3, dn, lf, _), _), (d, q, _)⟩ => cr_h20 off k n3 m3 dn lf d q
abbrev sf_h20 (off k : Int) (n3 m3 : Nat) (dn : Bool) (lf : Int) (d : List Int) (q : List (Ty.den wp)) : Prop := SemF Try.prog Γ 20 (SP.vals fp_h20.sp ((), off, k, ())) (OP.vals fp_h20.op ((n3, m3, dn, lf, ()), ())) (BP.vals fp_h20.bp (d, q, ())) (.any) ([]) ([])
noncomputable def ev_h20 (C : Cfg) (lv : List Nat) (off k : Int) (n3 m3 : Nat) (dn : Bool) (lf : Int) (d : List Int) (q : List (Ty.den wp)) := evV Try.prog Γ C lv 20 (SP.vals fp_h20.sp ((), off, k, ())) (OP.vals fp_h20.op ((n3, m3, dn, lf, ()), ())) (BP.vals fp_h20.bp (d, q, ()))
theorem cr_h20_ok (off k : Int) (n3 m3 : Nat) (dn : Bool) (lf : Int) (d : List Int) (q : List (Ty.den wp)) (h : (cr_h20 off k n3 m3 dn lf d q).1.getD true = true) : cn_h20 off k n3 m3 dn lf d q := of_decide_eq_true h
theorem ct_h20_ok (H : ∀ (off k : Int) (n3 m3 : Nat) (dn : Bool) (lf : Int) (d : List Int) (q : List (Ty.den wp)), cn_h20 off k n3 m3 dn lf d q → sf_h20 off k n3 m3 dn lf d q) : ∀ args ob nm c v ob1 nm1, ct_h20 args ob nm = some (c, v, ob1, nm1) → c.getD true = true → SemF Try.prog Γ 20 args ob nm v ob1 nm1 := Ct.by_ok fun ⟨(_, off, k, _), ((n3, m3, dn, lf, _), _), (d, q, _)⟩ h => H off k n3 m3 dn lf d q (cr_h20_ok off k n3 m3 dn lf d q h)
theorem s20_eq (off k : Int) (n3 m3 : Nat) (dn : Bool) (lf : Int) (d : List Int) (q : List (Ty.den wp)) : (ev_h20 cfgZ [] off k n3 m3 dn lf d q).run = (bif dn then (some (V.tup [V.s (ByteArray.mk #[]), V.i IntKind.i64 (331 : Int)], [some [V.bs true (0 : Nat) (0 : Nat) n3, V.bs true (1 : Nat) (0 : Nat) m3, V.sb dn, V.si IntKind.i64 lf]], [some (Bf.live (BC.arr bty d)), some (Bf.live (BC.arr wp q))])) else (bif decide (off < (0 : Int)) then (some (V.tup [V.s (ByteArray.mk #[]), V.i IntKind.i64 (330 : Int)], [some [V.bs true (0 : Nat) (0 : Nat) n3, V.bs true (1 : Nat) (0 : Nat) m3, V.sb dn, V.si IntKind.i64 lf]], [some (Bf.live (BC.arr bty d)), some (Bf.live (BC.arr wp q))])) else (bif decide (k < (0 : Int)) then (some (V.tup [V.s (ByteArray.mk #[]), V.i IntKind.i64 (330 : Int)], [some [V.bs true (0 : Nat) (0 : Nat) n3, V.bs true (1 : Nat) (0 : Nat) m3, V.sb dn, V.si IntKind.i64 lf]], [some (Bf.live (BC.arr bty d)), some (Bf.live (BC.arr wp q))])) else (bif decide (off > (Nat.cast (n3) : Int)) then (some (V.tup [V.s (ByteArray.mk #[]), V.i IntKind.i64 (330 : Int)], [some [V.bs true (0 : Nat) (0 : Nat) n3, V.bs true (1 : Nat) (0 : Nat) m3, V.sb dn, V.si IntKind.i64 lf]], [some (Bf.live (BC.arr bty d)), some (Bf.live (BC.arr wp q))])) else (bif decide (k > IntKind.i64.wrap ((Nat.cast (n3) : Int) - off)) then (some (V.tup [V.s (ByteArray.mk #[]), V.i IntKind.i64 (330 : Int)], [some [V.bs true (0 : Nat) (0 : Nat) n3, V.bs true (1 : Nat) (0 : Nat) m3, V.sb dn, V.si IntKind.i64 lf]], [some (Bf.live (BC.arr bty d)), some (Bf.live (BC.arr wp q))])) else (bif decide (cn_g34 n3 m3 dn lf d q) then (bif decide ((0 : Int) ≤ off ∧ off ≤ IntKind.i64.wrap (off + k) ∧ IntKind.i64.wrap (off + k) ≤ (Nat.cast (n3) : Int)) then (some (V.tup [V.ss (strOfNums (List.take ((IntKind.i64.wrap (off + k)).toNat - off.toNat) (List.drop (0 + off.toNat) (apN q m3 d)))), V.i IntKind.i64 (0 : Int)], [some [V.bs true (0 : Nat) (0 : Nat) n3, V.bs true (1 : Nat) (0 : Nat) m3, V.sb dn, V.si IntKind.i64 lf]], [some (Bf.live (BC.arr bty d)), some (Bf.live (BC.arr wp q))])) else none) else none)))))) := by kernel_rfl
def fp_h32 : FP := ⟨[.ptr 0 0, .ty ity], [.cells [.bz 0, .bz 1, .ty .bool, .ty ity]], [.arr bty, .arr wp]⟩
abbrev cn_h32 (k : Int) (n3 m3 : Nat) (dn : Bool) (lf : Int) (d : List Int) (q : List (Ty.den wp)) : Prop := True
noncomputable def cr_h32 (k : Int) (n3 m3 : Nat) (dn : Bool) (lf : Int) (d : List Int) (q : List (Ty.den wp)) : Option Bool × V × Ob × Nm := (some (decide (cn_h32 k n3 m3 dn lf d q)), .any, [], [])
noncomputable def ct_h32 := Ct.by fp_h32 fun ⟨(_, k, _), ((n3, m3, dn, lf, _), _), (d, q, _)⟩ => cr_h32 k n3 m3 dn lf d q
abbrev sf_h32 (k : Int) (n3 m3 : Nat) (dn : Bool) (lf : Int) (d : List Int) (q : List (Ty.den wp)) : Prop := SemF Try.prog Γ 32 (SP.vals fp_h32.sp ((), k, ())) (OP.vals fp_h32.op ((n3, m3, dn, lf, ()), ())) (BP.vals fp_h32.bp (d, q, ())) (.any) ([]) ([])
noncomputable def ev_h32 (C : Cfg) (lv : List Nat) (k : Int) (n3 m3 : Nat) (dn : Bool) (lf : Int) (d : List Int) (q : List (Ty.den wp)) := evV Try.prog Γ C lv 32 (SP.vals fp_h32.sp ((), k, ())) (OP.vals fp_h32.op ((n3, m3, dn, lf, ()), ())) (BP.vals fp_h32.bp (d, q, ()))
theorem cr_h32_ok (k : Int) (n3 m3 : Nat) (dn : Bool) (lf : Int) (d : List Int) (q : List (Ty.den wp)) (h : (cr_h32 k n3 m3 dn lf d q).1.getD true = true) : cn_h32 k n3 m3 dn lf d q := of_decide_eq_true h
theorem ct_h32_ok (H : ∀ (k : Int) (n3 m3 : Nat) (dn : Bool) (lf : Int) (d : List Int) (q : List (Ty.den wp)), cn_h32 k n3 m3 dn lf d q → sf_h32 k n3 m3 dn lf d q) : ∀ args ob nm c v ob1 nm1, ct_h32 args ob nm = some (c, v, ob1, nm1) → c.getD true = true → SemF Try.prog Γ 32 args ob nm v ob1 nm1 := Ct.by_ok fun ⟨(_, k, _), ((n3, m3, dn, lf, _), _), (d, q, _)⟩ h => H k n3 m3 dn lf d q (cr_h32_ok k n3 m3 dn lf d q h)
theorem s32_eq (k : Int) (n3 m3 : Nat) (dn : Bool) (lf : Int) (d : List Int) (q : List (Ty.den wp)) : (ev_h32 cfgZ [] k n3 m3 dn lf d q).run = (bif dn then (some (V.i IntKind.i64 (331 : Int), [some [V.bs true (0 : Nat) (0 : Nat) n3, V.bs true (1 : Nat) (0 : Nat) m3, V.sb dn, V.si IntKind.i64 lf]], [some (Bf.live (BC.arr bty d)), some (Bf.live (BC.arr wp q))])) else (bif decide (k < (0 : Int)) then (some (V.i IntKind.i64 (2 : Int), [some [V.bs true (0 : Nat) (0 : Nat) n3, V.bs true (1 : Nat) (0 : Nat) m3, V.sb dn, V.si IntKind.i64 lf]], [some (Bf.live (BC.arr bty d)), some (Bf.live (BC.arr wp q))])) else (some (V.i IntKind.i64 (0 : Int), [some [V.bs true (0 : Nat) (0 : Nat) n3, V.bs true (1 : Nat) (0 : Nat) m3, V.sb (k == (0 : Int)), V.si IntKind.i64 k]], [some (Bf.live (BC.arr bty d)), some (Bf.live (BC.arr wp q))])))) := by kernel_rfl
/-- What lies on a disk. -/
abbrev fitB (off k : Int) (n : Nat) : Prop := 0 ≤ off ∧ 0 ≤ k ∧ off + k ≤ (n : Int)
theorem si_of_i {f : FuncId} {args : List V} {ob ob1 : Ob} {nm nm1 : Nm} {k : Int} (h : SemF Try.prog Γ f args ob nm (.i .i64 k) ob1 nm1) : SemF Try.prog Γ f args ob nm (.si .i64 k) ob1 nm1 := h.weaken fun G cv h => by cases h; exact .si _ _
theorem in_eq {off k : Int} {n : Nat} {d : List Int} (hd : d.length = n) (hn : n ≤ 4194304) : (bif decide (off ≥ (0 : Int)) then bif decide (k ≥ (0 : Int)) then bif decide (off ≤ (Nat.cast ((List.take n (List.drop (0) d)).length) : Int)) then decide (k ≤ IntKind.i64.wrap ((Nat.cast ((List.take n (List.drop (0) d)).length) : Int) - off)) else false else false else false) = decide (fitB off k n) := by
  have ht : (List.take n (List.drop 0 d)).length = n := by rw [List.drop_zero, List.length_take]; omega
  rw [ht]
  by_cases h1 : off ≥ 0
  · by_cases h2 : k ≥ 0
    · by_cases h3 : off ≤ (n : Int)
      · have hw : IntKind.i64.wrap ((n : Int) - off) = n - off := wrap_in (by omega) (by omega)
        rw [hw, decide_eq_true h1, decide_eq_true h2, decide_eq_true h3]
        simp only [cond_true]
        by_cases h4 : k ≤ (n : Int) - off
        · rw [decide_eq_true h4, decide_eq_true (show fitB off k n from ⟨by omega, by omega, by omega⟩)]
        · rw [decide_eq_false h4, decide_eq_false (show ¬ fitB off k n from fun h => by have := h.2.2; omega)]
      · rw [decide_eq_true h1, decide_eq_true h2, decide_eq_false h3, decide_eq_false (show ¬ fitB off k n from fun h => by have := h.2; omega)]; rfl
    · rw [decide_eq_true h1, decide_eq_false h2, decide_eq_false (show ¬ fitB off k n from fun h => h2 h.2.1)]; rfl
  · rw [decide_eq_false h1, decide_eq_false (show ¬ fitB off k n from fun h => h1 h.1)]; rfl
def fp_w21f : FP := ⟨[.ptr 0 0, .ty ity, .ty .str], [.cells [.ty .bool, .ty ity, .bz 0, .bz 1, .bz 2]], [.arr bty, .arr bty, .arr wp]⟩
abbrev cn_w21f (off : Int) (s : ByteArray) (o : Bool) (lf : Int) (n1 n2 m : Nat) (d v : List Int) (q : List (Ty.den wp)) : Prop := (o = true ∨ ¬ fitB off s.size n1) ∧ d.length = n1 ∧ n1 ≤ 4194304
noncomputable def cr_w21f (off : Int) (s : ByteArray) (o : Bool) (lf : Int) (n1 n2 m : Nat) (d v : List Int) (q : List (Ty.den wp)) : Option Bool × V × Ob × Nm := (some (decide (cn_w21f off s o lf n1 n2 m d v q)), .si .i64 (bif o then 331 else 330), [some [.sb o, .si .i64 lf, .bs true 0 0 n1, .bs true 1 0 n2, .bs true 2 0 m]], [some (.live (.arr bty d)), some (.live (.arr bty v)), some (.live (.arr wp q))])
noncomputable def ct_w21f := Ct.by fp_w21f fun ⟨(_, off, s, _), ((o, lf, n1, n2, m, _), _), (d, v, q, _)⟩ => cr_w21f off s o lf n1 n2 m d v q
abbrev sf_w21f (off : Int) (s : ByteArray) (o : Bool) (lf : Int) (n1 n2 m : Nat) (d v : List Int) (q : List (Ty.den wp)) : Prop := SemF Try.prog Γ 21 (SP.vals fp_w21f.sp ((), off, s, ())) (OP.vals fp_w21f.op ((o, lf, n1, n2, m, ()), ())) (BP.vals fp_w21f.bp (d, v, q, ())) (.si .i64 (bif o then 331 else 330)) ([some [.sb o, .si .i64 lf, .bs true 0 0 n1, .bs true 1 0 n2, .bs true 2 0 m]]) ([some (.live (.arr bty d)), some (.live (.arr bty v)), some (.live (.arr wp q))])
noncomputable def ev_w21f (C : Cfg) (lv : List Nat) (off : Int) (s : ByteArray) (o : Bool) (lf : Int) (n1 n2 m : Nat) (d v : List Int) (q : List (Ty.den wp)) := evV Try.prog Γ C lv 21 (SP.vals fp_w21f.sp ((), off, s, ())) (OP.vals fp_w21f.op ((o, lf, n1, n2, m, ()), ())) (BP.vals fp_w21f.bp (d, v, q, ()))
theorem cr_w21f_ok (off : Int) (s : ByteArray) (o : Bool) (lf : Int) (n1 n2 m : Nat) (d v : List Int) (q : List (Ty.den wp)) (h : (cr_w21f off s o lf n1 n2 m d v q).1.getD true = true) : cn_w21f off s o lf n1 n2 m d v q := of_decide_eq_true h
theorem ct_w21f_ok (H : ∀ (off : Int) (s : ByteArray) (o : Bool) (lf : Int) (n1 n2 m : Nat) (d v : List Int) (q : List (Ty.den wp)), cn_w21f off s o lf n1 n2 m d v q → sf_w21f off s o lf n1 n2 m d v q) : ∀ args ob nm c v ob1 nm1, ct_w21f args ob nm = some (c, v, ob1, nm1) → c.getD true = true → SemF Try.prog Γ 21 args ob nm v ob1 nm1 := Ct.by_ok fun ⟨(_, off, s, _), ((o, lf, n1, n2, m, _), _), (d, v, q, _)⟩ h => H off s o lf n1 n2 m d v q (cr_w21f_ok off s o lf n1 n2 m d v q h)
theorem w21f_go (off : Int) (s : ByteArray) (o : Bool) (lf : Int) (n1 n2 m : Nat) (d v : List Int) (q : List (Ty.den wp)) (h : cn_w21f off s o lf n1 n2 m d v q) : sf_w21f off s o lf n1 n2 m d v q := by
  obtain ⟨h1, hd, hn⟩ := h
  cases o with
  | true => exact SemF.of_tree cfgZ_ok (lv := []) ((s21_eq off s true lf n1 n2 m d v q).trans rfl)
  | false =>
    have h1 : ¬ fitB off s.size n1 := by rcases h1 with h | h; cases h; exact h
    exact si_of_i (SemF.of_tree cfgZ_ok (lv := []) ((s21_eq off s false lf n1 n2 m d v q).trans (by rw [in_eq hd hn, decide_eq_false h1]; rfl)))
/-- How many writes are left before the power goes, behind one. -/
def lft (lf : Int) : Int := if lf = 0 then 0 else lf - 1
def fp_w21w : FP := ⟨[.ptr 0 0, .ty ity, .ty .str], [.cells [.ty .bool, .ty ity, .bz 0, .bz 1, .bz 2]], [.arr bty, .arr bty, .arr wp]⟩
abbrev cn_w21w (off : Int) (s : ByteArray) (o : Bool) (lf : Int) (n1 n2 m : Nat) (d v : List Int) (q : List (Ty.den wp)) : Prop := o = false ∧ fitB off s.size n1 ∧ preD n1 n2 m d v q ∧ m ≤ 1000 ∧ n1 ≤ 4194304 ∧ 0 ≤ lf ∧ lf ≤ 9223372036854775807
noncomputable def cr_w21w (off : Int) (s : ByteArray) (o : Bool) (lf : Int) (n1 n2 m : Nat) (d v : List Int) (q : List (Ty.den wp)) : Option Bool × V × Ob × Nm := (some (decide (cn_w21w off s o lf n1 n2 m d v q)), .i .i64 0, [some [.sb (lf == 1), .si .i64 (lft lf), .bs true 0 0 n1, .bs true 1 0 n2, .bs true 3 0 (m + 1)]], [some (.live (.arr bty d)), some (.live (.arr bty (cpy v off.toNat n2 (bytesOf s)))), some .dead, some (.live (.arr wp (List.take m q ++ [mkP off s])))])
noncomputable def ct_w21w := Ct.by fp_w21w fun ⟨(_, off, s, _), ((o, lf, n1, n2, m, _), _), (d, v, q, _)⟩ => cr_w21w off s o lf n1 n2 m d v q
abbrev sf_w21w (off : Int) (s : ByteArray) (o : Bool) (lf : Int) (n1 n2 m : Nat) (d v : List Int) (q : List (Ty.den wp)) : Prop := SemF Try.prog Γ 21 (SP.vals fp_w21w.sp ((), off, s, ())) (OP.vals fp_w21w.op ((o, lf, n1, n2, m, ()), ())) (BP.vals fp_w21w.bp (d, v, q, ())) (.i .i64 0) ([some [.sb (lf == 1), .si .i64 (lft lf), .bs true 0 0 n1, .bs true 1 0 n2, .bs true 3 0 (m + 1)]]) ([some (.live (.arr bty d)), some (.live (.arr bty (cpy v off.toNat n2 (bytesOf s)))), some .dead, some (.live (.arr wp (List.take m q ++ [mkP off s])))])
noncomputable def ev_w21w (C : Cfg) (lv : List Nat) (off : Int) (s : ByteArray) (o : Bool) (lf : Int) (n1 n2 m : Nat) (d v : List Int) (q : List (Ty.den wp)) := evV Try.prog Γ C lv 21 (SP.vals fp_w21w.sp ((), off, s, ())) (OP.vals fp_w21w.op ((o, lf, n1, n2, m, ()), ())) (BP.vals fp_w21w.bp (d, v, q, ()))
theorem cr_w21w_ok (off : Int) (s : ByteArray) (o : Bool) (lf : Int) (n1 n2 m : Nat) (d v : List Int) (q : List (Ty.den wp)) (h : (cr_w21w off s o lf n1 n2 m d v q).1.getD true = true) : cn_w21w off s o lf n1 n2 m d v q := of_decide_eq_true h
theorem ct_w21w_ok (H : ∀ (off : Int) (s : ByteArray) (o : Bool) (lf : Int) (n1 n2 m : Nat) (d v : List Int) (q : List (Ty.den wp)), cn_w21w off s o lf n1 n2 m d v q → sf_w21w off s o lf n1 n2 m d v q) : ∀ args ob nm c v ob1 nm1, ct_w21w args ob nm = some (c, v, ob1, nm1) → c.getD true = true → SemF Try.prog Γ 21 args ob nm v ob1 nm1 := Ct.by_ok fun ⟨(_, off, s, _), ((o, lf, n1, n2, m, _), _), (d, v, q, _)⟩ h => H off s o lf n1 n2 m d v q (cr_w21w_ok off s o lf n1 n2 m d v q h)
theorem w21w_go (off : Int) (s : ByteArray) (o : Bool) (lf : Int) (n1 n2 m : Nat) (d v : List Int) (q : List (Ty.den wp)) (h : cn_w21w off s o lf n1 n2 m d v q) : sf_w21w off s o lf n1 n2 m d v q := by
  obtain ⟨rfl, hf, ⟨hm, hd, hv, rfl, hq⟩, hm2, hn, h0, h1⟩ := h
  refine SemF.of_tree cfgZ_ok (lv := []) ((s21_eq off s false lf n1 n1 m d v q).trans ?_)
  rw [in_eq hd hn, decide_eq_true hf, decide_eq_true (by omega), decide_eq_true (by have := hf.1; have := hf.2; omega), List.drop_zero]
  by_cases hl : lf = 0
  · subst hl
    rfl
  · have e1 : (lf == (0 : Int)) = false := by rw [beq_eq_false_iff_ne]; exact hl
    have e2 : IntKind.i64.wrap (lf - 1) = lf - 1 := wrap_in (by omega) (by omega)
    have e3 : (lf - 1 == (0 : Int)) = (lf == 1) := by
      by_cases h : lf = 1
      · subst h; rfl
      · rw [beq_eq_false_iff_ne.2 (by omega : lf - 1 ≠ 0), beq_eq_false_iff_ne.2 h]
    have e4 : lft lf = lf - 1 := if_neg hl
    rw [e1, e2, e3, e4]
    rfl
def fp_w23f : FP := ⟨[.ptr 0 0], [.cells [.ty .bool, .ty ity, .bz 0, .bz 1, .bz 2]], [.arr bty, .arr bty, .arr wp]⟩
abbrev cn_w23f (o : Bool) (lf : Int) (n1 n2 m : Nat) (d v : List Int) (q : List (Ty.den wp)) : Prop := o = true
noncomputable def cr_w23f (o : Bool) (lf : Int) (n1 n2 m : Nat) (d v : List Int) (q : List (Ty.den wp)) : Option Bool × V × Ob × Nm := (some (decide (cn_w23f o lf n1 n2 m d v q)), .i .i64 331, [some [.sb o, .si .i64 lf, .bs true 0 0 n1, .bs true 1 0 n2, .bs true 2 0 m]], [some (.live (.arr bty d)), some (.live (.arr bty v)), some (.live (.arr wp q))])
noncomputable def ct_w23f := Ct.by fp_w23f fun ⟨(_, _), ((o, lf, n1, n2, m, _), _), (d, v, q, _)⟩ => cr_w23f o lf n1 n2 m d v q
abbrev sf_w23f (o : Bool) (lf : Int) (n1 n2 m : Nat) (d v : List Int) (q : List (Ty.den wp)) : Prop := SemF Try.prog Γ 23 (SP.vals fp_w23f.sp ((), ())) (OP.vals fp_w23f.op ((o, lf, n1, n2, m, ()), ())) (BP.vals fp_w23f.bp (d, v, q, ())) (.i .i64 331) ([some [.sb o, .si .i64 lf, .bs true 0 0 n1, .bs true 1 0 n2, .bs true 2 0 m]]) ([some (.live (.arr bty d)), some (.live (.arr bty v)), some (.live (.arr wp q))])
noncomputable def ev_w23f (C : Cfg) (lv : List Nat) (o : Bool) (lf : Int) (n1 n2 m : Nat) (d v : List Int) (q : List (Ty.den wp)) := evV Try.prog Γ C lv 23 (SP.vals fp_w23f.sp ((), ())) (OP.vals fp_w23f.op ((o, lf, n1, n2, m, ()), ())) (BP.vals fp_w23f.bp (d, v, q, ()))
theorem cr_w23f_ok (o : Bool) (lf : Int) (n1 n2 m : Nat) (d v : List Int) (q : List (Ty.den wp)) (h : (cr_w23f o lf n1 n2 m d v q).1.getD true = true) : cn_w23f o lf n1 n2 m d v q := of_decide_eq_true h
theorem ct_w23f_ok (H : ∀ (o : Bool) (lf : Int) (n1 n2 m : Nat) (d v : List Int) (q : List (Ty.den wp)), cn_w23f o lf n1 n2 m d v q → sf_w23f o lf n1 n2 m d v q) : ∀ args ob nm c v ob1 nm1, ct_w23f args ob nm = some (c, v, ob1, nm1) → c.getD true = true → SemF Try.prog Γ 23 args ob nm v ob1 nm1 := Ct.by_ok fun ⟨(_, _), ((o, lf, n1, n2, m, _), _), (d, v, q, _)⟩ h => H o lf n1 n2 m d v q (cr_w23f_ok o lf n1 n2 m d v q h)
theorem w23f_go (o : Bool) (lf : Int) (n1 n2 m : Nat) (d v : List Int) (q : List (Ty.den wp)) (h : cn_w23f o lf n1 n2 m d v q) : sf_w23f o lf n1 n2 m d v q := by
  obtain rfl : o = true := h
  exact (SemF.of_tree cfgZ_ok (lv := []) ((s23_eq true lf n1 n2 m d v q).trans rfl)).weaken fun G cv h => by cases h; exact .i _ _
def fp_w23w : FP := ⟨[.ptr 0 0], [.cells [.ty .bool, .ty ity, .bz 0, .bz 1, .bz 2]], [.arr bty, .arr bty, .arr wp]⟩
abbrev cn_w23w (o : Bool) (lf : Int) (n1 n2 m : Nat) (d v : List Int) (q : List (Ty.den wp)) : Prop := o = false ∧ preD n1 n2 m d v q
noncomputable def cr_w23w (o : Bool) (lf : Int) (n1 n2 m : Nat) (d v : List Int) (q : List (Ty.den wp)) : Option Bool × V × Ob × Nm := (some (decide (cn_w23w o lf n1 n2 m d v q)), .i .i64 0, [some [.sb o, .si .i64 lf, .bs true 0 0 n1, .bs true 1 0 n2, .bs true 2 0 0]], [some (.live (.arr bty v)), some (.live (.arr bty v)), some (.live (.arr wp (qS q m)))])
noncomputable def ct_w23w := Ct.by fp_w23w fun ⟨(_, _), ((o, lf, n1, n2, m, _), _), (d, v, q, _)⟩ => cr_w23w o lf n1 n2 m d v q
abbrev sf_w23w (o : Bool) (lf : Int) (n1 n2 m : Nat) (d v : List Int) (q : List (Ty.den wp)) : Prop := SemF Try.prog Γ 23 (SP.vals fp_w23w.sp ((), ())) (OP.vals fp_w23w.op ((o, lf, n1, n2, m, ()), ())) (BP.vals fp_w23w.bp (d, v, q, ())) (.i .i64 0) ([some [.sb o, .si .i64 lf, .bs true 0 0 n1, .bs true 1 0 n2, .bs true 2 0 0]]) ([some (.live (.arr bty v)), some (.live (.arr bty v)), some (.live (.arr wp (qS q m)))])
noncomputable def ev_w23w (C : Cfg) (lv : List Nat) (o : Bool) (lf : Int) (n1 n2 m : Nat) (d v : List Int) (q : List (Ty.den wp)) := evV Try.prog Γ C lv 23 (SP.vals fp_w23w.sp ((), ())) (OP.vals fp_w23w.op ((o, lf, n1, n2, m, ()), ())) (BP.vals fp_w23w.bp (d, v, q, ()))
theorem cr_w23w_ok (o : Bool) (lf : Int) (n1 n2 m : Nat) (d v : List Int) (q : List (Ty.den wp)) (h : (cr_w23w o lf n1 n2 m d v q).1.getD true = true) : cn_w23w o lf n1 n2 m d v q := of_decide_eq_true h
theorem ct_w23w_ok (H : ∀ (o : Bool) (lf : Int) (n1 n2 m : Nat) (d v : List Int) (q : List (Ty.den wp)), cn_w23w o lf n1 n2 m d v q → sf_w23w o lf n1 n2 m d v q) : ∀ args ob nm c v ob1 nm1, ct_w23w args ob nm = some (c, v, ob1, nm1) → c.getD true = true → SemF Try.prog Γ 23 args ob nm v ob1 nm1 := Ct.by_ok fun ⟨(_, _), ((o, lf, n1, n2, m, _), _), (d, v, q, _)⟩ h => H o lf n1 n2 m d v q (cr_w23w_ok o lf n1 n2 m d v q h)
theorem w23w_go (o : Bool) (lf : Int) (n1 n2 m : Nat) (d v : List Int) (q : List (Ty.den wp)) (h : cn_w23w o lf n1 n2 m d v q) : sf_w23w o lf n1 n2 m d v q := by
  obtain ⟨rfl, hm, hd, hv, rfl, hq⟩ := h
  exact (SemF.of_tree cfgZ_ok (lv := []) ((s23_eq false lf n1 n1 m d v q).trans (by rw [durS_all hd hv, decide_eq_true (by omega)]; rfl))).weaken fun G cv h => by cases h; exact .i _ _
/-- What reading gives. -/
def rdE (o : Bool) (off k : Int) (n : Nat) : Int := bif o then 331 else bif decide (fitB off k n) then 0 else 330
def rdS (o : Bool) (off k : Int) (n : Nat) (v : List Int) : ByteArray := bif o then .empty else bif decide (fitB off k n) then strOfNums (List.take k.toNat (List.drop off.toNat v)) else .empty
def fp_w14 : FP := ⟨[.ptr 0 0, .ty ity, .ty ity], [.cells [.ty .bool, .ty ity, .bz 0, .bz 1, .bz 2]], [.arr bty, .arr bty, .arr wp]⟩
abbrev cn_w14 (off k : Int) (o : Bool) (lf : Int) (n1 n2 m : Nat) (d v : List Int) (q : List (Ty.den wp)) : Prop := d.length = n1 ∧ n1 ≤ 4194304 ∧ n1 = n2
noncomputable def cr_w14 (off k : Int) (o : Bool) (lf : Int) (n1 n2 m : Nat) (d v : List Int) (q : List (Ty.den wp)) : Option Bool × V × Ob × Nm := (some (decide (cn_w14 off k o lf n1 n2 m d v q)), .tup [.ss (rdS o off k n1 v), .si .i64 (rdE o off k n1)], [some [.sb o, .si .i64 lf, .bs true 0 0 n1, .bs true 1 0 n2, .bs true 2 0 m]], [some (.live (.arr bty d)), some (.live (.arr bty v)), some (.live (.arr wp q))])
noncomputable def ct_w14 := Ct.by fp_w14 fun ⟨(_, off, k, _), ((o, lf, n1, n2, m, _), _), (d, v, q, _)⟩ => cr_w14 off k o lf n1 n2 m d v q
abbrev sf_w14 (off k : Int) (o : Bool) (lf : Int) (n1 n2 m : Nat) (d v : List Int) (q : List (Ty.den wp)) : Prop := SemF Try.prog Γ 14 (SP.vals fp_w14.sp ((), off, k, ())) (OP.vals fp_w14.op ((o, lf, n1, n2, m, ()), ())) (BP.vals fp_w14.bp (d, v, q, ())) (.tup [.ss (rdS o off k n1 v), .si .i64 (rdE o off k n1)]) ([some [.sb o, .si .i64 lf, .bs true 0 0 n1, .bs true 1 0 n2, .bs true 2 0 m]]) ([some (.live (.arr bty d)), some (.live (.arr bty v)), some (.live (.arr wp q))])
noncomputable def ev_w14 (C : Cfg) (lv : List Nat) (off k : Int) (o : Bool) (lf : Int) (n1 n2 m : Nat) (d v : List Int) (q : List (Ty.den wp)) := evV Try.prog Γ C lv 14 (SP.vals fp_w14.sp ((), off, k, ())) (OP.vals fp_w14.op ((o, lf, n1, n2, m, ()), ())) (BP.vals fp_w14.bp (d, v, q, ()))
theorem cr_w14_ok (off k : Int) (o : Bool) (lf : Int) (n1 n2 m : Nat) (d v : List Int) (q : List (Ty.den wp)) (h : (cr_w14 off k o lf n1 n2 m d v q).1.getD true = true) : cn_w14 off k o lf n1 n2 m d v q := of_decide_eq_true h
theorem ct_w14_ok (H : ∀ (off k : Int) (o : Bool) (lf : Int) (n1 n2 m : Nat) (d v : List Int) (q : List (Ty.den wp)), cn_w14 off k o lf n1 n2 m d v q → sf_w14 off k o lf n1 n2 m d v q) : ∀ args ob nm c v ob1 nm1, ct_w14 args ob nm = some (c, v, ob1, nm1) → c.getD true = true → SemF Try.prog Γ 14 args ob nm v ob1 nm1 := Ct.by_ok fun ⟨(_, off, k, _), ((o, lf, n1, n2, m, _), _), (d, v, q, _)⟩ h => H off k o lf n1 n2 m d v q (cr_w14_ok off k o lf n1 n2 m d v q h)
theorem tup_ss {f : FuncId} {args : List V} {ob ob1 : Ob} {nm nm1 : Nm} {s : ByteArray} {k : Int} {a b : V} (h : SemF Try.prog Γ f args ob nm (.tup [a, b]) ob1 nm1) (ha : a = .ss s ∨ a = .s s) (hb : b = .si .i64 k ∨ b = .i .i64 k) : SemF Try.prog Γ f args ob nm (.tup [.ss s, .si .i64 k]) ob1 nm1 := h.weaken fun G cv h => by
  cases h with
  | @tup _ c hl hh =>
    refine .tup hl (fun j u cv hu hc => ?_)
    match j, hu with
    | 0, hu =>
      have := hh 0 a cv rfl hc
      simp at hu
      subst hu
      rcases ha with rfl | rfl
      · exact this
      · cases this; exact .ss _
    | 1, hu =>
      have := hh 1 b cv rfl hc
      simp at hu
      subst hu
      rcases hb with rfl | rfl
      · exact this
      · cases this; exact .si _ _
    | j + 2, hu => simp at hu
theorem w14_go (off k : Int) (o : Bool) (lf : Int) (n1 n2 m : Nat) (d v : List Int) (q : List (Ty.den wp)) (h : cn_w14 off k o lf n1 n2 m d v q) : sf_w14 off k o lf n1 n2 m d v q := by
  obtain ⟨hd, hn, rfl⟩ := h
  cases o with
  | true => exact tup_ss (SemF.of_tree cfgZ_ok (lv := []) ((s14_eq off k true lf n1 n1 m d v q).trans rfl)) (.inr rfl) (.inl rfl)
  | false =>
    by_cases hf : fitB off k n1
    · have e1 : rdS false off k n1 v = strOfNums (List.take k.toNat (List.drop off.toNat v)) := by unfold rdS; rw [decide_eq_true hf]; rfl
      have e2 : rdE false off k n1 = 0 := by unfold rdE; rw [decide_eq_true hf]; rfl
      have h0 := SemF.of_tree cfgZ_ok (lv := []) ((s14_eq off k false lf n1 n1 m d v q).trans (by rw [in_eq hd hn, decide_eq_true hf, decide_eq_true (by have := hf.1; have := hf.2; omega), decide_eq_true (by have := hf.1; have := hf.2; omega), Nat.sub_zero, Nat.zero_add, Nat.add_zero]; rfl))
      show SemF _ _ _ _ _ _ (.tup [.ss (rdS false off k n1 v), .si .i64 (rdE false off k n1)]) _ _
      rw [e1, e2]
      exact tup_ss h0 (.inl rfl) (.inr rfl)
    · have e1 : rdS false off k n1 v = .empty := by unfold rdS; rw [decide_eq_false hf]; rfl
      have e2 : rdE false off k n1 = 330 := by unfold rdE; rw [decide_eq_false hf]; rfl
      have h0 := SemF.of_tree cfgZ_ok (lv := []) ((s14_eq off k false lf n1 n1 m d v q).trans (by rw [in_eq hd hn, decide_eq_false hf]; rfl))
      show SemF _ _ _ _ _ _ (.tup [.ss (rdS false off k n1 v), .si .i64 (rdE false off k n1)]) _ _
      rw [e1, e2]
      exact tup_ss h0 (.inr rfl) (.inr rfl)
/-- What a cut gives and leaves. -/
def ctE (o : Bool) (k : Int) : Int := bif o then 331 else bif decide (k < 0) then 2 else 0
def ctO (o : Bool) (k : Int) : Bool := bif o then o else bif decide (k < 0) then o else k == 0
def ctL (o : Bool) (k lf : Int) : Int := bif o then lf else bif decide (k < 0) then lf else k
def fp_w24 : FP := ⟨[.ptr 0 0, .ty ity], [.cells [.ty .bool, .ty ity, .bz 0, .bz 1, .bz 2]], [.arr bty, .arr bty, .arr wp]⟩
abbrev cn_w24 (k : Int) (o : Bool) (lf : Int) (n1 n2 m : Nat) (d v : List Int) (q : List (Ty.den wp)) : Prop := True
noncomputable def cr_w24 (k : Int) (o : Bool) (lf : Int) (n1 n2 m : Nat) (d v : List Int) (q : List (Ty.den wp)) : Option Bool × V × Ob × Nm := (some (decide (cn_w24 k o lf n1 n2 m d v q)), .si .i64 (ctE o k), [some [.sb (ctO o k), .si .i64 (ctL o k lf), .bs true 0 0 n1, .bs true 1 0 n2, .bs true 2 0 m]], [some (.live (.arr bty d)), some (.live (.arr bty v)), some (.live (.arr wp q))])
noncomputable def ct_w24 := Ct.by fp_w24 fun ⟨(_, k, _), ((o, lf, n1, n2, m, _), _), (d, v, q, _)⟩ => cr_w24 k o lf n1 n2 m d v q
abbrev sf_w24 (k : Int) (o : Bool) (lf : Int) (n1 n2 m : Nat) (d v : List Int) (q : List (Ty.den wp)) : Prop := SemF Try.prog Γ 24 (SP.vals fp_w24.sp ((), k, ())) (OP.vals fp_w24.op ((o, lf, n1, n2, m, ()), ())) (BP.vals fp_w24.bp (d, v, q, ())) (.si .i64 (ctE o k)) ([some [.sb (ctO o k), .si .i64 (ctL o k lf), .bs true 0 0 n1, .bs true 1 0 n2, .bs true 2 0 m]]) ([some (.live (.arr bty d)), some (.live (.arr bty v)), some (.live (.arr wp q))])
noncomputable def ev_w24 (C : Cfg) (lv : List Nat) (k : Int) (o : Bool) (lf : Int) (n1 n2 m : Nat) (d v : List Int) (q : List (Ty.den wp)) := evV Try.prog Γ C lv 24 (SP.vals fp_w24.sp ((), k, ())) (OP.vals fp_w24.op ((o, lf, n1, n2, m, ()), ())) (BP.vals fp_w24.bp (d, v, q, ()))
theorem cr_w24_ok (k : Int) (o : Bool) (lf : Int) (n1 n2 m : Nat) (d v : List Int) (q : List (Ty.den wp)) (h : (cr_w24 k o lf n1 n2 m d v q).1.getD true = true) : cn_w24 k o lf n1 n2 m d v q := of_decide_eq_true h
theorem ct_w24_ok (H : ∀ (k : Int) (o : Bool) (lf : Int) (n1 n2 m : Nat) (d v : List Int) (q : List (Ty.den wp)), cn_w24 k o lf n1 n2 m d v q → sf_w24 k o lf n1 n2 m d v q) : ∀ args ob nm c v ob1 nm1, ct_w24 args ob nm = some (c, v, ob1, nm1) → c.getD true = true → SemF Try.prog Γ 24 args ob nm v ob1 nm1 := Ct.by_ok fun ⟨(_, k, _), ((o, lf, n1, n2, m, _), _), (d, v, q, _)⟩ h => H k o lf n1 n2 m d v q (cr_w24_ok k o lf n1 n2 m d v q h)
theorem w24_go (k : Int) (o : Bool) (lf : Int) (n1 n2 m : Nat) (d v : List Int) (q : List (Ty.den wp)) (h : cn_w24 k o lf n1 n2 m d v q) : sf_w24 k o lf n1 n2 m d v q := by
  cases o with
  | true => exact SemF.of_tree cfgZ_ok (lv := []) ((s24_eq k true lf n1 n2 m d v q).trans rfl)
  | false =>
    by_cases hk : k < 0
    · have e := s24_eq k false lf n1 n2 m d v q
      rw [decide_eq_true hk] at e
      have h0 := si_of_i (SemF.of_tree cfgZ_ok (lv := []) (e.trans rfl))
      show SemF _ _ _ _ _ _ (.si .i64 (ctE false k)) [some [.sb (ctO false k), .si .i64 (ctL false k lf), _, _, _]] _
      unfold ctE ctO ctL
      rw [decide_eq_true hk]
      exact h0
    · have e := s24_eq k false lf n1 n2 m d v q
      rw [decide_eq_false hk] at e
      have h0 := si_of_i (SemF.of_tree cfgZ_ok (lv := []) (e.trans rfl))
      show SemF _ _ _ _ _ _ (.si .i64 (ctE false k)) [some [.sb (ctO false k), .si .i64 (ctL false k lf), _, _, _]] _
      unfold ctE ctO ctL
      rw [decide_eq_false hk]
      exact h0
end D
end Go.Proofs.Ytnjjkobijjdnbaa

/- Package disk: the reference's calls as contracts. -/
set_option linter.unusedVariables false
set_option linter.unusedSimpArgs false
set_option maxRecDepth 100000
set_option maxHeartbeats 4000000
namespace Go.Proofs.Ytnjjkobijjdnbaa
open Go
namespace D
def fp_w30f : FP := ⟨[.ptr 0 0, .ty ity, .ty .str], [.cells [.bz 0, .bz 1, .ty .bool, .ty ity]], [.arr bty, .arr wp]⟩
abbrev cn_w30f (off : Int) (s : ByteArray) (n3 m3 : Nat) (dn : Bool) (lf : Int) (d : List Int) (q : List (Ty.den wp)) : Prop := (dn = true ∨ ¬ fitB off s.size n3) ∧ n3 ≤ 4194304
noncomputable def cr_w30f (off : Int) (s : ByteArray) (n3 m3 : Nat) (dn : Bool) (lf : Int) (d : List Int) (q : List (Ty.den wp)) : Option Bool × V × Ob × Nm := (some (decide (cn_w30f off s n3 m3 dn lf d q)), .si .i64 (bif dn then 331 else 330), [some [.bs true 0 0 n3, .bs true 1 0 m3, .sb dn, .si .i64 lf]], [some (.live (.arr bty d)), some (.live (.arr wp q))])
noncomputable def ct_w30f := Ct.by fp_w30f fun ⟨(_, off, s, _), ((n3, m3, dn, lf, _), _), (d, q, _)⟩ => cr_w30f off s n3 m3 dn lf d q
abbrev sf_w30f (off : Int) (s : ByteArray) (n3 m3 : Nat) (dn : Bool) (lf : Int) (d : List Int) (q : List (Ty.den wp)) : Prop := SemF Try.prog Γ 30 (SP.vals fp_w30f.sp ((), off, s, ())) (OP.vals fp_w30f.op ((n3, m3, dn, lf, ()), ())) (BP.vals fp_w30f.bp (d, q, ())) (.si .i64 (bif dn then 331 else 330)) ([some [.bs true 0 0 n3, .bs true 1 0 m3, .sb dn, .si .i64 lf]]) ([some (.live (.arr bty d)), some (.live (.arr wp q))])
noncomputable def ev_w30f (C : Cfg) (lv : List Nat) (off : Int) (s : ByteArray) (n3 m3 : Nat) (dn : Bool) (lf : Int) (d : List Int) (q : List (Ty.den wp)) := evV Try.prog Γ C lv 30 (SP.vals fp_w30f.sp ((), off, s, ())) (OP.vals fp_w30f.op ((n3, m3, dn, lf, ()), ())) (BP.vals fp_w30f.bp (d, q, ()))
theorem cr_w30f_ok (off : Int) (s : ByteArray) (n3 m3 : Nat) (dn : Bool) (lf : Int) (d : List Int) (q : List (Ty.den wp)) (h : (cr_w30f off s n3 m3 dn lf d q).1.getD true = true) : cn_w30f off s n3 m3 dn lf d q := of_decide_eq_true h
theorem ct_w30f_ok (H : ∀ (off : Int) (s : ByteArray) (n3 m3 : Nat) (dn : Bool) (lf : Int) (d : List Int) (q : List (Ty.den wp)), cn_w30f off s n3 m3 dn lf d q → sf_w30f off s n3 m3 dn lf d q) : ∀ args ob nm c v ob1 nm1, ct_w30f args ob nm = some (c, v, ob1, nm1) → c.getD true = true → SemF Try.prog Γ 30 args ob nm v ob1 nm1 := Ct.by_ok fun ⟨(_, off, s, _), ((n3, m3, dn, lf, _), _), (d, q, _)⟩ h => H off s n3 m3 dn lf d q (cr_w30f_ok off s n3 m3 dn lf d q h)
theorem w30f_go (off : Int) (s : ByteArray) (n3 m3 : Nat) (dn : Bool) (lf : Int) (d : List Int) (q : List (Ty.den wp)) (h : cn_w30f off s n3 m3 dn lf d q) : sf_w30f off s n3 m3 dn lf d q := by
  obtain ⟨h1, hn⟩ := h
  cases dn with
  | true => exact si_of_i (SemF.of_tree cfgZ_ok (lv := []) ((s30_eq off s n3 m3 true lf d q).trans rfl))
  | false =>
    have h1 : ¬ fitB off s.size n3 := by rcases h1 with h | h; cases h; exact h
    refine si_of_i (SemF.of_tree cfgZ_ok (lv := []) ((s30_eq off s n3 m3 false lf d q).trans ?_))
    by_cases a1 : off < 0
    · rw [decide_eq_true a1]; rfl
    · rw [decide_eq_false a1]
      by_cases a2 : off > (n3 : Int)
      · rw [decide_eq_true a2]; rfl
      · have hw : IntKind.i64.wrap ((n3 : Int) - off) = n3 - off := wrap_in (by omega) (by omega)
        have a3 : (s.size : Int) > (n3 : Int) - off := by
          refine Decidable.byContradiction fun h => h1 ⟨by omega, by omega, by omega⟩
        rw [decide_eq_false a2, hw, decide_eq_true a3]; rfl
def fp_w30w : FP := ⟨[.ptr 0 0, .ty ity, .ty .str], [.cells [.bz 0, .bz 1, .ty .bool, .ty ity]], [.arr bty, .arr wp]⟩
abbrev cn_w30w (off : Int) (s : ByteArray) (n3 m3 : Nat) (dn : Bool) (lf : Int) (d : List Int) (q : List (Ty.den wp)) : Prop := dn = false ∧ fitB off s.size n3 ∧ m3 ≤ 1000 ∧ n3 ≤ 4194304 ∧ 0 ≤ lf ∧ lf ≤ 9223372036854775807
noncomputable def cr_w30w (off : Int) (s : ByteArray) (n3 m3 : Nat) (dn : Bool) (lf : Int) (d : List Int) (q : List (Ty.den wp)) : Option Bool × V × Ob × Nm := (some (decide (cn_w30w off s n3 m3 dn lf d q)), .i .i64 0, [some [.bs true 0 0 n3, .bs true 2 0 (m3 + 1), .sb (lf == 1), .si .i64 (lft lf)]], [some (.live (.arr bty d)), some .dead, some (.live (.arr wp (List.take m3 q ++ [mkP off s])))])
noncomputable def ct_w30w := Ct.by fp_w30w fun ⟨(_, off, s, _), ((n3, m3, dn, lf, _), _), (d, q, _)⟩ => cr_w30w off s n3 m3 dn lf d q
abbrev sf_w30w (off : Int) (s : ByteArray) (n3 m3 : Nat) (dn : Bool) (lf : Int) (d : List Int) (q : List (Ty.den wp)) : Prop := SemF Try.prog Γ 30 (SP.vals fp_w30w.sp ((), off, s, ())) (OP.vals fp_w30w.op ((n3, m3, dn, lf, ()), ())) (BP.vals fp_w30w.bp (d, q, ())) (.i .i64 0) ([some [.bs true 0 0 n3, .bs true 2 0 (m3 + 1), .sb (lf == 1), .si .i64 (lft lf)]]) ([some (.live (.arr bty d)), some .dead, some (.live (.arr wp (List.take m3 q ++ [mkP off s])))])
noncomputable def ev_w30w (C : Cfg) (lv : List Nat) (off : Int) (s : ByteArray) (n3 m3 : Nat) (dn : Bool) (lf : Int) (d : List Int) (q : List (Ty.den wp)) := evV Try.prog Γ C lv 30 (SP.vals fp_w30w.sp ((), off, s, ())) (OP.vals fp_w30w.op ((n3, m3, dn, lf, ()), ())) (BP.vals fp_w30w.bp (d, q, ()))
theorem cr_w30w_ok (off : Int) (s : ByteArray) (n3 m3 : Nat) (dn : Bool) (lf : Int) (d : List Int) (q : List (Ty.den wp)) (h : (cr_w30w off s n3 m3 dn lf d q).1.getD true = true) : cn_w30w off s n3 m3 dn lf d q := of_decide_eq_true h
theorem ct_w30w_ok (H : ∀ (off : Int) (s : ByteArray) (n3 m3 : Nat) (dn : Bool) (lf : Int) (d : List Int) (q : List (Ty.den wp)), cn_w30w off s n3 m3 dn lf d q → sf_w30w off s n3 m3 dn lf d q) : ∀ args ob nm c v ob1 nm1, ct_w30w args ob nm = some (c, v, ob1, nm1) → c.getD true = true → SemF Try.prog Γ 30 args ob nm v ob1 nm1 := Ct.by_ok fun ⟨(_, off, s, _), ((n3, m3, dn, lf, _), _), (d, q, _)⟩ h => H off s n3 m3 dn lf d q (cr_w30w_ok off s n3 m3 dn lf d q h)
theorem sb_cell {f : FuncId} {args : List V} {ob : Ob} {nm nm1 : Nm} {v a b c d : V} {x : Bool} (h : SemF Try.prog Γ f args ob nm v [some [a, b, .b x, d]] nm1) : SemF Try.prog Γ f args ob nm v [some [a, b, .sb x, d]] nm1 := by
  intro G w cargs hw hr
  refine (h G w cargs hw hr).mono ?_
  rintro e w' ⟨cv, G1, rfl, hle, hv, hw1⟩
  refine ⟨cv, G1, rfl, hle, hv, hw1.weakOb rfl (fun o cs' h => ?_) (fun o h => ?_)⟩
  · match o, h with
    | 0, h =>
      simp at h
      subst h
      refine ⟨_, rfl, rfl, fun j x' hx => ?_⟩
      match j, hx with
      | 0, hx => exact ⟨_, hx, fun _ _ h => h⟩
      | 1, hx => exact ⟨_, hx, fun _ _ h => h⟩
      | 2, hx =>
        simp at hx
        subst hx
        exact ⟨_, rfl, fun G cv h => by cases h; exact .sb _⟩
      | 3, hx => exact ⟨_, hx, fun _ _ h => h⟩
      | j + 4, hx => simp at hx
    | o + 1, h => simp at h
  · match o, h with
    | 0, h => simp at h
    | o + 1, h => simp at h
theorem w30w_go (off : Int) (s : ByteArray) (n3 m3 : Nat) (dn : Bool) (lf : Int) (d : List Int) (q : List (Ty.den wp)) (h : cn_w30w off s n3 m3 dn lf d q) : sf_w30w off s n3 m3 dn lf d q := by
  obtain ⟨rfl, ⟨f0, f1, f2⟩, hm2, hn, h0, h1⟩ := h
  have hw : IntKind.i64.wrap ((n3 : Int) - off) = n3 - off := wrap_in (by omega) (by omega)
  have e := s30_eq off s n3 m3 false lf d q
  rw [decide_eq_false (by omega : ¬ off < 0), decide_eq_false (by omega : ¬ off > (n3 : Int)), hw, decide_eq_false (by omega : ¬ (s.size : Int) > (n3 : Int) - off), decide_eq_true (by omega : (m3 + 1) * 2 * 24 ≤ 281474976710656), List.drop_zero] at e
  by_cases hl : lf = 0
  · subst hl
    exact SemF.of_tree cfgZ_ok (lv := []) (e.trans rfl)
  · have e2 : IntKind.i64.wrap (lf - 1) = lf - 1 := wrap_in (by omega) (by omega)
    have e4 : lft lf = lf - 1 := if_neg hl
    rw [decide_eq_true (by omega : lf > 0), e2] at e
    by_cases h1 : lf = 1
    · subst h1
      exact sb_cell (c := .nil) (SemF.of_tree cfgZ_ok (lv := []) (e.trans rfl))
    · rw [show (lf - 1 == (0 : Int)) = false by rw [beq_eq_false_iff_ne]; omega] at e
      have h9 := SemF.of_tree cfgZ_ok (lv := []) (e.trans rfl)
      show SemF _ _ _ _ _ _ _ [some [_, _, .sb (lf == 1), .si .i64 (lft lf)]] _
      rw [e4, show (lf == (1 : Int)) = false by rw [beq_eq_false_iff_ne]; exact h1]
      exact h9
def fp_w31f : FP := ⟨[.ptr 0 0], [.cells [.bz 0, .bz 1, .ty .bool, .ty ity]], [.arr bty, .arr wp]⟩
abbrev cn_w31f (n3 m3 : Nat) (dn : Bool) (lf : Int) (d : List Int) (q : List (Ty.den wp)) : Prop := dn = true
noncomputable def cr_w31f (n3 m3 : Nat) (dn : Bool) (lf : Int) (d : List Int) (q : List (Ty.den wp)) : Option Bool × V × Ob × Nm := (some (decide (cn_w31f n3 m3 dn lf d q)), .i .i64 331, [some [.bs true 0 0 n3, .bs true 1 0 m3, .sb dn, .si .i64 lf]], [some (.live (.arr bty d)), some (.live (.arr wp q))])
noncomputable def ct_w31f := Ct.by fp_w31f fun ⟨(_, _), ((n3, m3, dn, lf, _), _), (d, q, _)⟩ => cr_w31f n3 m3 dn lf d q
abbrev sf_w31f (n3 m3 : Nat) (dn : Bool) (lf : Int) (d : List Int) (q : List (Ty.den wp)) : Prop := SemF Try.prog Γ 31 (SP.vals fp_w31f.sp ((), ())) (OP.vals fp_w31f.op ((n3, m3, dn, lf, ()), ())) (BP.vals fp_w31f.bp (d, q, ())) (.i .i64 331) ([some [.bs true 0 0 n3, .bs true 1 0 m3, .sb dn, .si .i64 lf]]) ([some (.live (.arr bty d)), some (.live (.arr wp q))])
noncomputable def ev_w31f (C : Cfg) (lv : List Nat) (n3 m3 : Nat) (dn : Bool) (lf : Int) (d : List Int) (q : List (Ty.den wp)) := evV Try.prog Γ C lv 31 (SP.vals fp_w31f.sp ((), ())) (OP.vals fp_w31f.op ((n3, m3, dn, lf, ()), ())) (BP.vals fp_w31f.bp (d, q, ()))
theorem cr_w31f_ok (n3 m3 : Nat) (dn : Bool) (lf : Int) (d : List Int) (q : List (Ty.den wp)) (h : (cr_w31f n3 m3 dn lf d q).1.getD true = true) : cn_w31f n3 m3 dn lf d q := of_decide_eq_true h
theorem ct_w31f_ok (H : ∀ (n3 m3 : Nat) (dn : Bool) (lf : Int) (d : List Int) (q : List (Ty.den wp)), cn_w31f n3 m3 dn lf d q → sf_w31f n3 m3 dn lf d q) : ∀ args ob nm c v ob1 nm1, ct_w31f args ob nm = some (c, v, ob1, nm1) → c.getD true = true → SemF Try.prog Γ 31 args ob nm v ob1 nm1 := Ct.by_ok fun ⟨(_, _), ((n3, m3, dn, lf, _), _), (d, q, _)⟩ h => H n3 m3 dn lf d q (cr_w31f_ok n3 m3 dn lf d q h)
theorem w31f_go (n3 m3 : Nat) (dn : Bool) (lf : Int) (d : List Int) (q : List (Ty.den wp)) (h : cn_w31f n3 m3 dn lf d q) : sf_w31f n3 m3 dn lf d q := by
  obtain rfl : dn = true := h
  exact SemF.of_tree cfgZ_ok (lv := []) ((s31_eq n3 m3 true lf d q).trans rfl)
def fp_w31w : FP := ⟨[.ptr 0 0], [.cells [.bz 0, .bz 1, .ty .bool, .ty ity]], [.arr bty, .arr wp]⟩
abbrev cn_w31w (n3 m3 : Nat) (dn : Bool) (lf : Int) (d : List Int) (q : List (Ty.den wp)) : Prop := dn = false ∧ cn_g34 n3 m3 dn lf d q
noncomputable def cr_w31w (n3 m3 : Nat) (dn : Bool) (lf : Int) (d : List Int) (q : List (Ty.den wp)) : Option Bool × V × Ob × Nm := (some (decide (cn_w31w n3 m3 dn lf d q)), .i .i64 0, [some [.bs true 2 0 n3, .bs true 1 0 0, .sb dn, .si .i64 lf]], [some (.live (.arr bty d)), some (.live (.arr wp q)), some (.live (.arr bty (apN q m3 d)))])
noncomputable def ct_w31w := Ct.by fp_w31w fun ⟨(_, _), ((n3, m3, dn, lf, _), _), (d, q, _)⟩ => cr_w31w n3 m3 dn lf d q
abbrev sf_w31w (n3 m3 : Nat) (dn : Bool) (lf : Int) (d : List Int) (q : List (Ty.den wp)) : Prop := SemF Try.prog Γ 31 (SP.vals fp_w31w.sp ((), ())) (OP.vals fp_w31w.op ((n3, m3, dn, lf, ()), ())) (BP.vals fp_w31w.bp (d, q, ())) (.i .i64 0) ([some [.bs true 2 0 n3, .bs true 1 0 0, .sb dn, .si .i64 lf]]) ([some (.live (.arr bty d)), some (.live (.arr wp q)), some (.live (.arr bty (apN q m3 d)))])
noncomputable def ev_w31w (C : Cfg) (lv : List Nat) (n3 m3 : Nat) (dn : Bool) (lf : Int) (d : List Int) (q : List (Ty.den wp)) := evV Try.prog Γ C lv 31 (SP.vals fp_w31w.sp ((), ())) (OP.vals fp_w31w.op ((n3, m3, dn, lf, ()), ())) (BP.vals fp_w31w.bp (d, q, ()))
theorem cr_w31w_ok (n3 m3 : Nat) (dn : Bool) (lf : Int) (d : List Int) (q : List (Ty.den wp)) (h : (cr_w31w n3 m3 dn lf d q).1.getD true = true) : cn_w31w n3 m3 dn lf d q := of_decide_eq_true h
theorem ct_w31w_ok (H : ∀ (n3 m3 : Nat) (dn : Bool) (lf : Int) (d : List Int) (q : List (Ty.den wp)), cn_w31w n3 m3 dn lf d q → sf_w31w n3 m3 dn lf d q) : ∀ args ob nm c v ob1 nm1, ct_w31w args ob nm = some (c, v, ob1, nm1) → c.getD true = true → SemF Try.prog Γ 31 args ob nm v ob1 nm1 := Ct.by_ok fun ⟨(_, _), ((n3, m3, dn, lf, _), _), (d, q, _)⟩ h => H n3 m3 dn lf d q (cr_w31w_ok n3 m3 dn lf d q h)
theorem w31w_go (n3 m3 : Nat) (dn : Bool) (lf : Int) (d : List Int) (q : List (Ty.den wp)) (h : cn_w31w n3 m3 dn lf d q) : sf_w31w n3 m3 dn lf d q := by
  obtain ⟨rfl, h1⟩ := h
  exact (SemF.of_tree cfgZ_ok (lv := []) ((s31_eq n3 m3 false lf d q).trans (by rw [decide_eq_true h1]; rfl))).nilBs 0 1 1 rfl rfl
def fp_w20 : FP := ⟨[.ptr 0 0, .ty ity, .ty ity], [.cells [.bz 0, .bz 1, .ty .bool, .ty ity]], [.arr bty, .arr wp]⟩
abbrev cn_w20 (off k : Int) (n3 m3 : Nat) (dn : Bool) (lf : Int) (d : List Int) (q : List (Ty.den wp)) : Prop := cn_g34 n3 m3 dn lf d q
noncomputable def cr_w20 (off k : Int) (n3 m3 : Nat) (dn : Bool) (lf : Int) (d : List Int) (q : List (Ty.den wp)) : Option Bool × V × Ob × Nm := (some (decide (cn_w20 off k n3 m3 dn lf d q)), .tup [.ss (rdS dn off k n3 (apN q m3 d)), .si .i64 (rdE dn off k n3)], [some [.bs true 0 0 n3, .bs true 1 0 m3, .sb dn, .si .i64 lf]], [some (.live (.arr bty d)), some (.live (.arr wp q))])
noncomputable def ct_w20 := Ct.by fp_w20 fun ⟨(_, off, k, _), ((n3, m3, dn, lf, _), _), (d, q, _)⟩ => cr_w20 off k n3 m3 dn lf d q
abbrev sf_w20 (off k : Int) (n3 m3 : Nat) (dn : Bool) (lf : Int) (d : List Int) (q : List (Ty.den wp)) : Prop := SemF Try.prog Γ 20 (SP.vals fp_w20.sp ((), off, k, ())) (OP.vals fp_w20.op ((n3, m3, dn, lf, ()), ())) (BP.vals fp_w20.bp (d, q, ())) (.tup [.ss (rdS dn off k n3 (apN q m3 d)), .si .i64 (rdE dn off k n3)]) ([some [.bs true 0 0 n3, .bs true 1 0 m3, .sb dn, .si .i64 lf]]) ([some (.live (.arr bty d)), some (.live (.arr wp q))])
noncomputable def ev_w20 (C : Cfg) (lv : List Nat) (off k : Int) (n3 m3 : Nat) (dn : Bool) (lf : Int) (d : List Int) (q : List (Ty.den wp)) := evV Try.prog Γ C lv 20 (SP.vals fp_w20.sp ((), off, k, ())) (OP.vals fp_w20.op ((n3, m3, dn, lf, ()), ())) (BP.vals fp_w20.bp (d, q, ()))
theorem cr_w20_ok (off k : Int) (n3 m3 : Nat) (dn : Bool) (lf : Int) (d : List Int) (q : List (Ty.den wp)) (h : (cr_w20 off k n3 m3 dn lf d q).1.getD true = true) : cn_w20 off k n3 m3 dn lf d q := of_decide_eq_true h
theorem ct_w20_ok (H : ∀ (off k : Int) (n3 m3 : Nat) (dn : Bool) (lf : Int) (d : List Int) (q : List (Ty.den wp)), cn_w20 off k n3 m3 dn lf d q → sf_w20 off k n3 m3 dn lf d q) : ∀ args ob nm c v ob1 nm1, ct_w20 args ob nm = some (c, v, ob1, nm1) → c.getD true = true → SemF Try.prog Γ 20 args ob nm v ob1 nm1 := Ct.by_ok fun ⟨(_, off, k, _), ((n3, m3, dn, lf, _), _), (d, q, _)⟩ h => H off k n3 m3 dn lf d q (cr_w20_ok off k n3 m3 dn lf d q h)
theorem w20_go (off k : Int) (n3 m3 : Nat) (dn : Bool) (lf : Int) (d : List Int) (q : List (Ty.den wp)) (h : cn_w20 off k n3 m3 dn lf d q) : sf_w20 off k n3 m3 dn lf d q := by
  have h1 : cn_g34 n3 m3 dn lf d q := h
  have hn := h1.2.1
  have e := s20_eq off k n3 m3 dn lf d q
  cases dn with
  | true => exact tup_ss (SemF.of_tree cfgZ_ok (lv := []) (e.trans rfl)) (.inr rfl) (.inr rfl)
  | false =>
    have no : ¬ fitB off k n3 → (evV Try.prog Γ cfgZ [] 20 [.ptr 0 0, .si .i64 off, .si .i64 k] [some [.bs true 0 0 n3, .bs true 1 0 m3, .sb false, .si .i64 lf]] [some (.live (.arr bty d)), some (.live (.arr wp q))]).run = some (.tup [.s .empty, .i .i64 330], [some [.bs true 0 0 n3, .bs true 1 0 m3, .sb false, .si .i64 lf]], [some (.live (.arr bty d)), some (.live (.arr wp q))]) → sf_w20 off k n3 m3 false lf d q := fun hf he => by
      have e1 : rdS false off k n3 (apN q m3 d) = .empty := by unfold rdS; rw [decide_eq_false hf]; rfl
      have e2 : rdE false off k n3 = 330 := by unfold rdE; rw [decide_eq_false hf]; rfl
      show SemF _ _ _ _ _ _ (.tup [.ss (rdS false off k n3 (apN q m3 d)), .si .i64 (rdE false off k n3)]) _ _
      rw [e1, e2]
      exact tup_ss (SemF.of_tree cfgZ_ok he) (.inr rfl) (.inr rfl)
    by_cases a1 : off < 0
    · exact no (fun h => by have := h.1; omega) (e.trans (by rw [decide_eq_true a1]; rfl))
    · by_cases a2 : k < 0
      · exact no (fun h => by have := h.2.1; omega) (e.trans (by rw [decide_eq_false a1, decide_eq_true a2]; rfl))
      · by_cases a3 : off > (n3 : Int)
        · exact no (fun h => by have := h.2; omega) (e.trans (by rw [decide_eq_false a1, decide_eq_false a2, decide_eq_true a3]; rfl))
        · have hw : IntKind.i64.wrap ((n3 : Int) - off) = n3 - off := wrap_in (by omega) (by omega)
          rw [hw] at e
          by_cases a4 : k > (n3 : Int) - off
          · exact no (fun h => by have := h.2.2; omega) (e.trans (by rw [decide_eq_false a1, decide_eq_false a2, decide_eq_false a3, decide_eq_true a4]; rfl))
          · have hf : fitB off k n3 := ⟨by omega, by omega, by omega⟩
            have hw2 : IntKind.i64.wrap (off + k) = off + k := wrap_in (by omega) (by omega)
            have e1 : rdS false off k n3 (apN q m3 d) = strOfNums (List.take k.toNat (List.drop off.toNat (apN q m3 d))) := by unfold rdS; rw [decide_eq_true hf]; rfl
            have e2 : rdE false off k n3 = 0 := by unfold rdE; rw [decide_eq_true hf]; rfl
            show SemF _ _ _ _ _ _ (.tup [.ss (rdS false off k n3 (apN q m3 d)), .si .i64 (rdE false off k n3)]) _ _
            rw [e1, e2]
            refine tup_ss (SemF.of_tree cfgZ_ok (lv := []) (e.trans ?_)) (.inl rfl) (.inr rfl)
            rw [decide_eq_false a1, decide_eq_false a2, decide_eq_false a3, decide_eq_false a4, decide_eq_true h1, hw2, decide_eq_true (by omega), Nat.zero_add, show (off + k).toNat - off.toNat = k.toNat by omega]
            rfl
def fp_w32 : FP := ⟨[.ptr 0 0, .ty ity], [.cells [.bz 0, .bz 1, .ty .bool, .ty ity]], [.arr bty, .arr wp]⟩
abbrev cn_w32 (k : Int) (n3 m3 : Nat) (dn : Bool) (lf : Int) (d : List Int) (q : List (Ty.den wp)) : Prop := True
noncomputable def cr_w32 (k : Int) (n3 m3 : Nat) (dn : Bool) (lf : Int) (d : List Int) (q : List (Ty.den wp)) : Option Bool × V × Ob × Nm := (some (decide (cn_w32 k n3 m3 dn lf d q)), .si .i64 (ctE dn k), [some [.bs true 0 0 n3, .bs true 1 0 m3, .sb (ctO dn k), .si .i64 (ctL dn k lf)]], [some (.live (.arr bty d)), some (.live (.arr wp q))])
noncomputable def ct_w32 := Ct.by fp_w32 fun ⟨(_, k, _), ((n3, m3, dn, lf, _), _), (d, q, _)⟩ => cr_w32 k n3 m3 dn lf d q
abbrev sf_w32 (k : Int) (n3 m3 : Nat) (dn : Bool) (lf : Int) (d : List Int) (q : List (Ty.den wp)) : Prop := SemF Try.prog Γ 32 (SP.vals fp_w32.sp ((), k, ())) (OP.vals fp_w32.op ((n3, m3, dn, lf, ()), ())) (BP.vals fp_w32.bp (d, q, ())) (.si .i64 (ctE dn k)) ([some [.bs true 0 0 n3, .bs true 1 0 m3, .sb (ctO dn k), .si .i64 (ctL dn k lf)]]) ([some (.live (.arr bty d)), some (.live (.arr wp q))])
noncomputable def ev_w32 (C : Cfg) (lv : List Nat) (k : Int) (n3 m3 : Nat) (dn : Bool) (lf : Int) (d : List Int) (q : List (Ty.den wp)) := evV Try.prog Γ C lv 32 (SP.vals fp_w32.sp ((), k, ())) (OP.vals fp_w32.op ((n3, m3, dn, lf, ()), ())) (BP.vals fp_w32.bp (d, q, ()))
theorem cr_w32_ok (k : Int) (n3 m3 : Nat) (dn : Bool) (lf : Int) (d : List Int) (q : List (Ty.den wp)) (h : (cr_w32 k n3 m3 dn lf d q).1.getD true = true) : cn_w32 k n3 m3 dn lf d q := of_decide_eq_true h
theorem ct_w32_ok (H : ∀ (k : Int) (n3 m3 : Nat) (dn : Bool) (lf : Int) (d : List Int) (q : List (Ty.den wp)), cn_w32 k n3 m3 dn lf d q → sf_w32 k n3 m3 dn lf d q) : ∀ args ob nm c v ob1 nm1, ct_w32 args ob nm = some (c, v, ob1, nm1) → c.getD true = true → SemF Try.prog Γ 32 args ob nm v ob1 nm1 := Ct.by_ok fun ⟨(_, k, _), ((n3, m3, dn, lf, _), _), (d, q, _)⟩ h => H k n3 m3 dn lf d q (cr_w32_ok k n3 m3 dn lf d q h)
theorem w32_go (k : Int) (n3 m3 : Nat) (dn : Bool) (lf : Int) (d : List Int) (q : List (Ty.den wp)) (h : cn_w32 k n3 m3 dn lf d q) : sf_w32 k n3 m3 dn lf d q := by
  have e := s32_eq k n3 m3 dn lf d q
  cases dn with
  | true => exact si_of_i (SemF.of_tree cfgZ_ok (lv := []) (e.trans rfl))
  | false =>
    by_cases hk : k < 0
    · rw [decide_eq_true hk] at e
      have h0 := si_of_i (SemF.of_tree cfgZ_ok (lv := []) (e.trans rfl))
      show SemF _ _ _ _ _ _ (.si .i64 (ctE false k)) [some [_, _, .sb (ctO false k), .si .i64 (ctL false k lf)]] _
      unfold ctE ctO ctL
      rw [decide_eq_true hk]
      exact h0
    · rw [decide_eq_false hk] at e
      have h0 := si_of_i (SemF.of_tree cfgZ_ok (lv := []) (e.trans rfl))
      show SemF _ _ _ _ _ _ (.si .i64 (ctE false k)) [some [_, _, .sb (ctO false k), .si .i64 (ctL false k lf)]] _
      unfold ctE ctO ctL
      rw [decide_eq_false hk]
      exact h0
noncomputable def TA_0 : CallT := fun f args ob nm => match Nat.beq f 14 with | true => ct_w14 args ob nm | false => T8 f args ob nm
theorem TA_0_ok : CtOk Try.prog Γ TA_0 := CtOk.cons T8_ok 14 ct_w14 (by decide) Try.f14 Try.func14 (by kernel_rfl) (by kernel_rfl) (ct_w14_ok w14_go)
noncomputable def TA_1 : CallT := fun f args ob nm => match Nat.beq f 24 with | true => ct_w24 args ob nm | false => TA_0 f args ob nm
theorem TA_1_ok : CtOk Try.prog Γ TA_1 := CtOk.cons TA_0_ok 24 ct_w24 (by decide) Try.f24 Try.func24 (by kernel_rfl) (by kernel_rfl) (ct_w24_ok w24_go)
noncomputable def TA_2 : CallT := fun f args ob nm => match Nat.beq f 20 with | true => ct_w20 args ob nm | false => TA_1 f args ob nm
theorem TA_2_ok : CtOk Try.prog Γ TA_2 := CtOk.cons TA_1_ok 20 ct_w20 (by decide) Try.f20 Try.func20 (by kernel_rfl) (by kernel_rfl) (ct_w20_ok w20_go)
noncomputable def TA_3 : CallT := fun f args ob nm => match Nat.beq f 32 with | true => ct_w32 args ob nm | false => TA_2 f args ob nm
theorem TA_3_ok : CtOk Try.prog Γ TA_3 := CtOk.cons TA_2_ok 32 ct_w32 (by decide) Try.f32 Try.func32 (by kernel_rfl) (by kernel_rfl) (ct_w32_ok w32_go)
noncomputable def TA : CallT := fun f args ob nm => match Nat.beq f 25 with | true => ct_g25b args ob nm | false => TA_3 f args ob nm
theorem TA_ok : CtOk Try.prog Γ TA := CtOk.cons TA_3_ok 25 ct_g25b (by decide) Try.f25 Try.func25 (by kernel_rfl) (by kernel_rfl) (ct_g25b_ok g25b_go)
noncomputable def TF_0 : CallT := fun f args ob nm => match Nat.beq f 21 with | true => ct_w21f args ob nm | false => TA f args ob nm
theorem TF_0_ok : CtOk Try.prog Γ TF_0 := CtOk.cons TA_ok 21 ct_w21f (by decide) Try.f21 Try.func21 (by kernel_rfl) (by kernel_rfl) (ct_w21f_ok w21f_go)
noncomputable def TF_1 : CallT := fun f args ob nm => match Nat.beq f 30 with | true => ct_w30f args ob nm | false => TF_0 f args ob nm
theorem TF_1_ok : CtOk Try.prog Γ TF_1 := CtOk.cons TF_0_ok 30 ct_w30f (by decide) Try.f30 Try.func30 (by kernel_rfl) (by kernel_rfl) (ct_w30f_ok w30f_go)
noncomputable def TF_2 : CallT := fun f args ob nm => match Nat.beq f 23 with | true => ct_w23f args ob nm | false => TF_1 f args ob nm
theorem TF_2_ok : CtOk Try.prog Γ TF_2 := CtOk.cons TF_1_ok 23 ct_w23f (by decide) Try.f23 Try.func23 (by kernel_rfl) (by kernel_rfl) (ct_w23f_ok w23f_go)
noncomputable def TF : CallT := fun f args ob nm => match Nat.beq f 31 with | true => ct_w31f args ob nm | false => TF_2 f args ob nm
theorem TF_ok : CtOk Try.prog Γ TF := CtOk.cons TF_2_ok 31 ct_w31f (by decide) Try.f31 Try.func31 (by kernel_rfl) (by kernel_rfl) (ct_w31f_ok w31f_go)
noncomputable def TW_0 : CallT := fun f args ob nm => match Nat.beq f 21 with | true => ct_w21w args ob nm | false => TA f args ob nm
theorem TW_0_ok : CtOk Try.prog Γ TW_0 := CtOk.cons TA_ok 21 ct_w21w (by decide) Try.f21 Try.func21 (by kernel_rfl) (by kernel_rfl) (ct_w21w_ok w21w_go)
noncomputable def TW : CallT := fun f args ob nm => match Nat.beq f 30 with | true => ct_w30w args ob nm | false => TW_0 f args ob nm
theorem TW_ok : CtOk Try.prog Γ TW := CtOk.cons TW_0_ok 30 ct_w30w (by decide) Try.f30 Try.func30 (by kernel_rfl) (by kernel_rfl) (ct_w30w_ok w30w_go)
noncomputable def TS_0 : CallT := fun f args ob nm => match Nat.beq f 23 with | true => ct_w23w args ob nm | false => TA f args ob nm
theorem TS_0_ok : CtOk Try.prog Γ TS_0 := CtOk.cons TA_ok 23 ct_w23w (by decide) Try.f23 Try.func23 (by kernel_rfl) (by kernel_rfl) (ct_w23w_ok w23w_go)
noncomputable def TS : CallT := fun f args ob nm => match Nat.beq f 31 with | true => ct_w31w args ob nm | false => TS_0 f args ob nm
theorem TS_ok : CtOk Try.prog Γ TS := CtOk.cons TS_0_ok 31 ct_w31w (by decide) Try.f31 Try.func31 (by kernel_rfl) (by kernel_rfl) (ct_w31w_ok w31w_go)
end D
end Go.Proofs.Ytnjjkobijjdnbaa

/- Package disk: one step on both disks. -/
set_option linter.unusedVariables false
set_option linter.unusedSimpArgs false
set_option maxRecDepth 100000
set_option maxHeartbeats 4000000
namespace Go.Proofs.Ytnjjkobijjdnbaa
open Go
namespace D
def om19 : FuncId → Bool := fun f => [14, 20, 21, 23, 24, 25, 30, 31, 32, 33].any (Nat.beq f)
noncomputable def cfgSF : Cfg := { cfgP with om := callC TF, omd := om19 }
theorem cfgSF_ok : CfgOk Try.prog Γ cfgSF := { cfgP_ok with om := callC_calls TF_ok, fit := callC_fit TF_ok }
noncomputable def cfgSW : Cfg := { cfgP with om := callC TW, omd := om19 }
theorem cfgSW_ok : CfgOk Try.prog Γ cfgSW := { cfgP_ok with om := callC_calls TW_ok, fit := callC_fit TW_ok }
noncomputable def cfgSS : Cfg := { cfgP with om := callC TS, omd := om19 }
theorem cfgSS_ok : CfgOk Try.prog Γ cfgSS := { cfgP_ok with om := callC_calls TS_ok, fit := callC_fit TS_ok }
abbrev yt : Ty := .agg [.int .i64, .int .i64, .int .i64, .str, .slice (.int .i64)]
def cs3 (s : ByteArray) : ByteArray := s.extract 0 (if (300 : Int) < (Nat.cast (s.size) : Int) then (300 : Int) else (Nat.cast (s.size) : Int)).toNat
def ck1 (ks : List Int) : List Int := List.drop 0 (List.take (if (100 : Int) < (Nat.cast (ks.length) : Int) then (100 : Int) else (Nat.cast (ks.length) : Int)).toNat ks)
-- 
-- 
def fp_z19 : FP := ⟨[.ptr 0 0, .ptr 1 0, .ty yt], [.cells [.ty .bool, .ty ity, .bz 0, .bz 1, .bz 2], .cells [.bz 3, .bz 4, .ty .bool, .ty ity]], [.arr bty, .arr bty, .arr wp, .arr bty, .arr wp]⟩
abbrev cn_z19 (c off k : Int) (s : ByteArray) (ks : List Int) (o : Bool) (lf : Int) (n1 n2 m : Nat) (n3 m3 : Nat) (dn : Bool) (lf3 : Int) (d v : List Int) (q : List (Ty.den wp)) (d3 : List Int) (q3 : List (Ty.den wp)) : Prop := True
noncomputable def cr_z19 (c off k : Int) (s : ByteArray) (ks : List Int) (o : Bool) (lf : Int) (n1 n2 m : Nat) (n3 m3 : Nat) (dn : Bool) (lf3 : Int) (d v : List Int) (q : List (Ty.den wp)) (d3 : List Int) (q3 : List (Ty.den wp)) : Option Bool × V × Ob × Nm := (some (decide (cn_z19 c off k s ks o lf n1 n2 m n3 m3 dn lf3 d v q d3 q3)), .any, [], [])
noncomputable def ct_z19 := Ct.by fp_z19 fun ⟨(_, _, (c, off, k, s, ks, _), _), ((o, lf, n1, n2, m, _), (n3, m3, dn, lf3, _), _), (d, v, q, d3, q3, _)⟩ => cr_z19 c off k s ks o lf n1 n2 m n3 m3 dn lf3 d v q d3 q3
abbrev sf_z19 (c off k : Int) (s : ByteArray) (ks : List Int) (o : Bool) (lf : Int) (n1 n2 m : Nat) (n3 m3 : Nat) (dn : Bool) (lf3 : Int) (d v : List Int) (q : List (Ty.den wp)) (d3 : List Int) (q3 : List (Ty.den wp)) : Prop := SemF Try.prog Γ 19 (SP.vals fp_z19.sp ((), (), (c, off, k, s, ks, ()), ())) (OP.vals fp_z19.op ((o, lf, n1, n2, m, ()), (n3, m3, dn, lf3, ()), ())) (BP.vals fp_z19.bp (d, v, q, d3, q3, ())) (.any) ([]) ([])
noncomputable def ev_z19 (C : Cfg) (lv : List Nat) (c off k : Int) (s : ByteArray) (ks : List Int) (o : Bool) (lf : Int) (n1 n2 m : Nat) (n3 m3 : Nat) (dn : Bool) (lf3 : Int) (d v : List Int) (q : List (Ty.den wp)) (d3 : List Int) (q3 : List (Ty.den wp)) := evV Try.prog Γ C lv 19 (SP.vals fp_z19.sp ((), (), (c, off, k, s, ks, ()), ())) (OP.vals fp_z19.op ((o, lf, n1, n2, m, ()), (n3, m3, dn, lf3, ()), ())) (BP.vals fp_z19.bp (d, v, q, d3, q3, ()))
theorem cr_z19_ok (c off k : Int) (s : ByteArray) (ks : List Int) (o : Bool) (lf : Int) (n1 n2 m : Nat) (n3 m3 : Nat) (dn : Bool) (lf3 : Int) (d v : List Int) (q : List (Ty.den wp)) (d3 : List Int) (q3 : List (Ty.den wp)) (h : (cr_z19 c off k s ks o lf n1 n2 m n3 m3 dn lf3 d v q d3 q3).1.getD true = true) : cn_z19 c off k s ks o lf n1 n2 m n3 m3 dn lf3 d v q d3 q3 := of_decide_eq_true h
theorem ct_z19_ok (H : ∀ (c off k : Int) (s : ByteArray) (ks : List Int) (o : Bool) (lf : Int) (n1 n2 m : Nat) (n3 m3 : Nat) (dn : Bool) (lf3 : Int) (d v : List Int) (q : List (Ty.den wp)) (d3 : List Int) (q3 : List (Ty.den wp)), cn_z19 c off k s ks o lf n1 n2 m n3 m3 dn lf3 d v q d3 q3 → sf_z19 c off k s ks o lf n1 n2 m n3 m3 dn lf3 d v q d3 q3) : ∀ args ob nm c v ob1 nm1, ct_z19 args ob nm = some (c, v, ob1, nm1) → c.getD true = true → SemF Try.prog Γ 19 args ob nm v ob1 nm1 := Ct.by_ok fun ⟨(_, _, (c, off, k, s, ks, _), _), ((o, lf, n1, n2, m, _), (n3, m3, dn, lf3, _), _), (d, v, q, d3, q3, _)⟩ h => H c off k s ks o lf n1 n2 m n3 m3 dn lf3 d v q d3 q3 (cr_z19_ok c off k s ks o lf n1 n2 m n3 m3 dn lf3 d v q d3 q3 h)
theorem z19F (c off k : Int) (s : ByteArray) (ks : List Int) (o : Bool) (lf : Int) (n1 n2 m : Nat) (n3 m3 : Nat) (dn : Bool) (lf3 : Int) (d v : List Int) (q : List (Ty.den wp)) (d3 : List Int) (q3 : List (Ty.den wp)) : (ev_z19 cfgSF [] c off k s ks o lf n1 n2 m n3 m3 dn lf3 d v q d3 q3).run = (bif inr c && true then (bif pickD c (6 : Int) == (0 : Int) then (bif pickD c (6 : Int) == (0 : Int) then (bif decide ((0 : Int) ≤ (0 : Int) ∧ ((0 : Int) ≤ if (300 : Int) < (Nat.cast (s.size) : Int) then (300 : Int) else (Nat.cast (s.size) : Int)) ∧ (if (300 : Int) < (Nat.cast (s.size) : Int) then (300 : Int) else (Nat.cast (s.size) : Int)) ≤ (Nat.cast (s.size) : Int)) then (bif decide (cn_w21f off (cs3 s) o lf n1 n2 m d v q) then (bif decide (cn_w30f off (cs3 s) n3 m3 dn lf3 d3 q3) then (some (V.sb ((bif o then (331 : Int) else (330 : Int)) == bif dn then (331 : Int) else (330 : Int)), [some [V.sb o, V.si IntKind.i64 lf, V.bs true (0 : Nat) (0 : Nat) n1, V.bs true (1 : Nat) (0 : Nat) n2, V.bs true (2 : Nat) (0 : Nat) m], some [V.bs true (3 : Nat) (0 : Nat) n3, V.bs true (4 : Nat) (0 : Nat) m3, V.sb dn, V.si IntKind.i64 lf3]], [some (Bf.live (BC.arr bty d)), some (Bf.live (BC.arr bty v)), some (Bf.live (BC.arr wp q)), some (Bf.live (BC.arr bty d3)), some (Bf.live (BC.arr wp q3))])) else none) else none) else none) else (bif pickD c (6 : Int) == (2 : Int) then (bif decide (cn_w23f o lf n1 n2 m d v q) then (bif decide (cn_w31f n3 m3 dn lf3 d3 q3) then (some (V.b true, [some [V.sb o, V.si IntKind.i64 lf, V.bs true (0 : Nat) (0 : Nat) n1, V.bs true (1 : Nat) (0 : Nat) n2, V.bs true (2 : Nat) (0 : Nat) m], some [V.bs true (3 : Nat) (0 : Nat) n3, V.bs true (4 : Nat) (0 : Nat) m3, V.sb dn, V.si IntKind.i64 lf3]], [some (Bf.live (BC.arr bty d)), some (Bf.live (BC.arr bty v)), some (Bf.live (BC.arr wp q)), some (Bf.live (BC.arr bty d3)), some (Bf.live (BC.arr wp q3))])) else none) else none) else (bif pickD c (6 : Int) == (3 : Int) then (bif decide (cn_w14 off k o lf n1 n2 m d v q) then (bif decide (cn_w20 off k n3 m3 dn lf3 d3 q3) then (bif (rdS o off k n1 v).toList == (rdS dn off k n3 (apN q3 m3 d3)).toList then (some (V.sb (rdE o off k n1 == rdE dn off k n3), [some [V.sb o, V.si IntKind.i64 lf, V.bs true (0 : Nat) (0 : Nat) n1, V.bs true (1 : Nat) (0 : Nat) n2, V.bs true (2 : Nat) (0 : Nat) m], some [V.bs true (3 : Nat) (0 : Nat) n3, V.bs true (4 : Nat) (0 : Nat) m3, V.sb dn, V.si IntKind.i64 lf3]], [some (Bf.live (BC.arr bty d)), some (Bf.live (BC.arr bty v)), some (Bf.live (BC.arr wp q)), some (Bf.live (BC.arr bty d3)), some (Bf.live (BC.arr wp q3))])) else (some (V.b false, [some [V.sb o, V.si IntKind.i64 lf, V.bs true (0 : Nat) (0 : Nat) n1, V.bs true (1 : Nat) (0 : Nat) n2, V.bs true (2 : Nat) (0 : Nat) m], some [V.bs true (3 : Nat) (0 : Nat) n3, V.bs true (4 : Nat) (0 : Nat) m3, V.sb dn, V.si IntKind.i64 lf3]], [some (Bf.live (BC.arr bty d)), some (Bf.live (BC.arr bty v)), some (Bf.live (BC.arr wp q)), some (Bf.live (BC.arr bty d3)), some (Bf.live (BC.arr wp q3))]))) else none) else none) else (bif pickD c (6 : Int) == (4 : Int) then (bif decide (cn_w24 k o lf n1 n2 m d v q) then (bif decide (cn_w32 k n3 m3 dn lf3 d3 q3) then (some (V.sb (ctE o k == ctE dn k), [some [V.sb (ctO o k), V.si IntKind.i64 (ctL o k lf), V.bs true (0 : Nat) (0 : Nat) n1, V.bs true (1 : Nat) (0 : Nat) n2, V.bs true (2 : Nat) (0 : Nat) m], some [V.bs true (3 : Nat) (0 : Nat) n3, V.bs true (4 : Nat) (0 : Nat) m3, V.sb (ctO dn k), V.si IntKind.i64 (ctL dn k lf3)]], [some (Bf.live (BC.arr bty d)), some (Bf.live (BC.arr bty v)), some (Bf.live (BC.arr wp q)), some (Bf.live (BC.arr bty d3)), some (Bf.live (BC.arr wp q3))])) else none) else none) else (bif decide ((0 : Int) ≤ (0 : Int) ∧ ((0 : Int) ≤ if (100 : Int) < (Nat.cast (ks.length) : Int) then (100 : Int) else (Nat.cast (ks.length) : Int)) ∧ (if (100 : Int) < (Nat.cast (ks.length) : Int) then (100 : Int) else (Nat.cast (ks.length) : Int)) ≤ (Nat.cast (ks.length) : Int)) then (bif decide (cn_g33 (ck1 ks) k n3 m3 dn lf3 d3 q3) then (bif decide (cn_g25b k lf o n1 n2 m (ck1 ks) d v q) then (some (V.b true, [some [V.b false, V.i IntKind.i64 (0 : Int), V.bs true (0 : Nat) (0 : Nat) n1, V.bs true (1 : Nat) (0 : Nat) n2, V.bs true (2 : Nat) (0 : Nat) (0 : Nat)], some [V.bs true (3 : Nat) (0 : Nat) n3, V.bs true (4 : Nat) (0 : Nat) (0 : Nat), V.b false, V.i IntKind.i64 (0 : Int)]], [some (Bf.live (BC.arr bty (crd k q m (ck1 ks) d))), some (Bf.live (BC.arr bty (crd k q m (ck1 ks) d))), some (Bf.live (BC.arr wp (qS q m))), some (Bf.live (BC.arr bty (crR k (flt (ck1 ks) q3 m3) (flt (ck1 ks) q3 m3).length d3))), some (Bf.live (BC.arr wp q3))])) else none) else none) else none))))) else (bif pickD c (6 : Int) == (1 : Int) then (bif decide ((0 : Int) ≤ (0 : Int) ∧ ((0 : Int) ≤ if (300 : Int) < (Nat.cast (s.size) : Int) then (300 : Int) else (Nat.cast (s.size) : Int)) ∧ (if (300 : Int) < (Nat.cast (s.size) : Int) then (300 : Int) else (Nat.cast (s.size) : Int)) ≤ (Nat.cast (s.size) : Int)) then (bif decide (cn_w21f off (cs3 s) o lf n1 n2 m d v q) then (bif decide (cn_w30f off (cs3 s) n3 m3 dn lf3 d3 q3) then (some (V.sb ((bif o then (331 : Int) else (330 : Int)) == bif dn then (331 : Int) else (330 : Int)), [some [V.sb o, V.si IntKind.i64 lf, V.bs true (0 : Nat) (0 : Nat) n1, V.bs true (1 : Nat) (0 : Nat) n2, V.bs true (2 : Nat) (0 : Nat) m], some [V.bs true (3 : Nat) (0 : Nat) n3, V.bs true (4 : Nat) (0 : Nat) m3, V.sb dn, V.si IntKind.i64 lf3]], [some (Bf.live (BC.arr bty d)), some (Bf.live (BC.arr bty v)), some (Bf.live (BC.arr wp q)), some (Bf.live (BC.arr bty d3)), some (Bf.live (BC.arr wp q3))])) else none) else none) else none) else (bif pickD c (6 : Int) == (2 : Int) then (bif decide (cn_w23f o lf n1 n2 m d v q) then (bif decide (cn_w31f n3 m3 dn lf3 d3 q3) then (some (V.b true, [some [V.sb o, V.si IntKind.i64 lf, V.bs true (0 : Nat) (0 : Nat) n1, V.bs true (1 : Nat) (0 : Nat) n2, V.bs true (2 : Nat) (0 : Nat) m], some [V.bs true (3 : Nat) (0 : Nat) n3, V.bs true (4 : Nat) (0 : Nat) m3, V.sb dn, V.si IntKind.i64 lf3]], [some (Bf.live (BC.arr bty d)), some (Bf.live (BC.arr bty v)), some (Bf.live (BC.arr wp q)), some (Bf.live (BC.arr bty d3)), some (Bf.live (BC.arr wp q3))])) else none) else none) else (bif pickD c (6 : Int) == (3 : Int) then (bif decide (cn_w14 off k o lf n1 n2 m d v q) then (bif decide (cn_w20 off k n3 m3 dn lf3 d3 q3) then (bif (rdS o off k n1 v).toList == (rdS dn off k n3 (apN q3 m3 d3)).toList then (some (V.sb (rdE o off k n1 == rdE dn off k n3), [some [V.sb o, V.si IntKind.i64 lf, V.bs true (0 : Nat) (0 : Nat) n1, V.bs true (1 : Nat) (0 : Nat) n2, V.bs true (2 : Nat) (0 : Nat) m], some [V.bs true (3 : Nat) (0 : Nat) n3, V.bs true (4 : Nat) (0 : Nat) m3, V.sb dn, V.si IntKind.i64 lf3]], [some (Bf.live (BC.arr bty d)), some (Bf.live (BC.arr bty v)), some (Bf.live (BC.arr wp q)), some (Bf.live (BC.arr bty d3)), some (Bf.live (BC.arr wp q3))])) else (some (V.b false, [some [V.sb o, V.si IntKind.i64 lf, V.bs true (0 : Nat) (0 : Nat) n1, V.bs true (1 : Nat) (0 : Nat) n2, V.bs true (2 : Nat) (0 : Nat) m], some [V.bs true (3 : Nat) (0 : Nat) n3, V.bs true (4 : Nat) (0 : Nat) m3, V.sb dn, V.si IntKind.i64 lf3]], [some (Bf.live (BC.arr bty d)), some (Bf.live (BC.arr bty v)), some (Bf.live (BC.arr wp q)), some (Bf.live (BC.arr bty d3)), some (Bf.live (BC.arr wp q3))]))) else none) else none) else (bif pickD c (6 : Int) == (4 : Int) then (bif decide (cn_w24 k o lf n1 n2 m d v q) then (bif decide (cn_w32 k n3 m3 dn lf3 d3 q3) then (some (V.sb (ctE o k == ctE dn k), [some [V.sb (ctO o k), V.si IntKind.i64 (ctL o k lf), V.bs true (0 : Nat) (0 : Nat) n1, V.bs true (1 : Nat) (0 : Nat) n2, V.bs true (2 : Nat) (0 : Nat) m], some [V.bs true (3 : Nat) (0 : Nat) n3, V.bs true (4 : Nat) (0 : Nat) m3, V.sb (ctO dn k), V.si IntKind.i64 (ctL dn k lf3)]], [some (Bf.live (BC.arr bty d)), some (Bf.live (BC.arr bty v)), some (Bf.live (BC.arr wp q)), some (Bf.live (BC.arr bty d3)), some (Bf.live (BC.arr wp q3))])) else none) else none) else (bif decide ((0 : Int) ≤ (0 : Int) ∧ ((0 : Int) ≤ if (100 : Int) < (Nat.cast (ks.length) : Int) then (100 : Int) else (Nat.cast (ks.length) : Int)) ∧ (if (100 : Int) < (Nat.cast (ks.length) : Int) then (100 : Int) else (Nat.cast (ks.length) : Int)) ≤ (Nat.cast (ks.length) : Int)) then (bif decide (cn_g33 (ck1 ks) k n3 m3 dn lf3 d3 q3) then (bif decide (cn_g25b k lf o n1 n2 m (ck1 ks) d v q) then (some (V.b true, [some [V.b false, V.i IntKind.i64 (0 : Int), V.bs true (0 : Nat) (0 : Nat) n1, V.bs true (1 : Nat) (0 : Nat) n2, V.bs true (2 : Nat) (0 : Nat) (0 : Nat)], some [V.bs true (3 : Nat) (0 : Nat) n3, V.bs true (4 : Nat) (0 : Nat) (0 : Nat), V.b false, V.i IntKind.i64 (0 : Int)]], [some (Bf.live (BC.arr bty (crd k q m (ck1 ks) d))), some (Bf.live (BC.arr bty (crd k q m (ck1 ks) d))), some (Bf.live (BC.arr wp (qS q m))), some (Bf.live (BC.arr bty (crR k (flt (ck1 ks) q3 m3) (flt (ck1 ks) q3 m3).length d3))), some (Bf.live (BC.arr wp q3))])) else none) else none) else none)))))) else none) := by kernel_rfl
theorem z19W (c off k : Int) (s : ByteArray) (ks : List Int) (o : Bool) (lf : Int) (n1 n2 m : Nat) (n3 m3 : Nat) (dn : Bool) (lf3 : Int) (d v : List Int) (q : List (Ty.den wp)) (d3 : List Int) (q3 : List (Ty.den wp)) : (ev_z19 cfgSW [] c off k s ks o lf n1 n2 m n3 m3 dn lf3 d v q d3 q3).run = (bif inr c && true then (bif pickD c (6 : Int) == (0 : Int) then (bif pickD c (6 : Int) == (0 : Int) then (bif decide ((0 : Int) ≤ (0 : Int) ∧ ((0 : Int) ≤ if (300 : Int) < (Nat.cast (s.size) : Int) then (300 : Int) else (Nat.cast (s.size) : Int)) ∧ (if (300 : Int) < (Nat.cast (s.size) : Int) then (300 : Int) else (Nat.cast (s.size) : Int)) ≤ (Nat.cast (s.size) : Int)) then (bif decide (cn_w21w off (cs3 s) o lf n1 n2 m d v q) then (bif decide (cn_w30w off (cs3 s) n3 m3 dn lf3 d3 q3) then (some (V.b true, [some [V.sb (lf == (1 : Int)), V.si IntKind.i64 (lft lf), V.bs true (0 : Nat) (0 : Nat) n1, V.bs true (1 : Nat) (0 : Nat) n2, V.bs true (5 : Nat) (0 : Nat) (m + 1)], some [V.bs true (3 : Nat) (0 : Nat) n3, V.bs true (6 : Nat) (0 : Nat) (m3 + 1), V.sb (lf3 == (1 : Int)), V.si IntKind.i64 (lft lf3)]], [some (Bf.live (BC.arr bty d)), some (Bf.live (BC.arr bty (cpy v off.toNat n2 (bytesOf (cs3 s))))), some Bf.dead, some (Bf.live (BC.arr bty d3)), some Bf.dead, some (Bf.live (BC.arr wp (List.take m q ++ [mkP off (cs3 s)]))), some (Bf.live (BC.arr wp (List.take m3 q3 ++ [mkP off (cs3 s)])))])) else none) else none) else none) else (bif pickD c (6 : Int) == (2 : Int) then none else (bif pickD c (6 : Int) == (3 : Int) then (bif decide (cn_w14 off k o lf n1 n2 m d v q) then (bif decide (cn_w20 off k n3 m3 dn lf3 d3 q3) then (bif (rdS o off k n1 v).toList == (rdS dn off k n3 (apN q3 m3 d3)).toList then (some (V.sb (rdE o off k n1 == rdE dn off k n3), [some [V.sb o, V.si IntKind.i64 lf, V.bs true (0 : Nat) (0 : Nat) n1, V.bs true (1 : Nat) (0 : Nat) n2, V.bs true (2 : Nat) (0 : Nat) m], some [V.bs true (3 : Nat) (0 : Nat) n3, V.bs true (4 : Nat) (0 : Nat) m3, V.sb dn, V.si IntKind.i64 lf3]], [some (Bf.live (BC.arr bty d)), some (Bf.live (BC.arr bty v)), some (Bf.live (BC.arr wp q)), some (Bf.live (BC.arr bty d3)), some (Bf.live (BC.arr wp q3))])) else (some (V.b false, [some [V.sb o, V.si IntKind.i64 lf, V.bs true (0 : Nat) (0 : Nat) n1, V.bs true (1 : Nat) (0 : Nat) n2, V.bs true (2 : Nat) (0 : Nat) m], some [V.bs true (3 : Nat) (0 : Nat) n3, V.bs true (4 : Nat) (0 : Nat) m3, V.sb dn, V.si IntKind.i64 lf3]], [some (Bf.live (BC.arr bty d)), some (Bf.live (BC.arr bty v)), some (Bf.live (BC.arr wp q)), some (Bf.live (BC.arr bty d3)), some (Bf.live (BC.arr wp q3))]))) else none) else none) else (bif pickD c (6 : Int) == (4 : Int) then (bif decide (cn_w24 k o lf n1 n2 m d v q) then (bif decide (cn_w32 k n3 m3 dn lf3 d3 q3) then (some (V.sb (ctE o k == ctE dn k), [some [V.sb (ctO o k), V.si IntKind.i64 (ctL o k lf), V.bs true (0 : Nat) (0 : Nat) n1, V.bs true (1 : Nat) (0 : Nat) n2, V.bs true (2 : Nat) (0 : Nat) m], some [V.bs true (3 : Nat) (0 : Nat) n3, V.bs true (4 : Nat) (0 : Nat) m3, V.sb (ctO dn k), V.si IntKind.i64 (ctL dn k lf3)]], [some (Bf.live (BC.arr bty d)), some (Bf.live (BC.arr bty v)), some (Bf.live (BC.arr wp q)), some (Bf.live (BC.arr bty d3)), some (Bf.live (BC.arr wp q3))])) else none) else none) else (bif decide ((0 : Int) ≤ (0 : Int) ∧ ((0 : Int) ≤ if (100 : Int) < (Nat.cast (ks.length) : Int) then (100 : Int) else (Nat.cast (ks.length) : Int)) ∧ (if (100 : Int) < (Nat.cast (ks.length) : Int) then (100 : Int) else (Nat.cast (ks.length) : Int)) ≤ (Nat.cast (ks.length) : Int)) then (bif decide (cn_g33 (ck1 ks) k n3 m3 dn lf3 d3 q3) then (bif decide (cn_g25b k lf o n1 n2 m (ck1 ks) d v q) then (some (V.b true, [some [V.b false, V.i IntKind.i64 (0 : Int), V.bs true (0 : Nat) (0 : Nat) n1, V.bs true (1 : Nat) (0 : Nat) n2, V.bs true (2 : Nat) (0 : Nat) (0 : Nat)], some [V.bs true (3 : Nat) (0 : Nat) n3, V.bs true (4 : Nat) (0 : Nat) (0 : Nat), V.b false, V.i IntKind.i64 (0 : Int)]], [some (Bf.live (BC.arr bty (crd k q m (ck1 ks) d))), some (Bf.live (BC.arr bty (crd k q m (ck1 ks) d))), some (Bf.live (BC.arr wp (qS q m))), some (Bf.live (BC.arr bty (crR k (flt (ck1 ks) q3 m3) (flt (ck1 ks) q3 m3).length d3))), some (Bf.live (BC.arr wp q3))])) else none) else none) else none))))) else (bif pickD c (6 : Int) == (1 : Int) then (bif decide ((0 : Int) ≤ (0 : Int) ∧ ((0 : Int) ≤ if (300 : Int) < (Nat.cast (s.size) : Int) then (300 : Int) else (Nat.cast (s.size) : Int)) ∧ (if (300 : Int) < (Nat.cast (s.size) : Int) then (300 : Int) else (Nat.cast (s.size) : Int)) ≤ (Nat.cast (s.size) : Int)) then (bif decide (cn_w21w off (cs3 s) o lf n1 n2 m d v q) then (bif decide (cn_w30w off (cs3 s) n3 m3 dn lf3 d3 q3) then (some (V.b true, [some [V.sb (lf == (1 : Int)), V.si IntKind.i64 (lft lf), V.bs true (0 : Nat) (0 : Nat) n1, V.bs true (1 : Nat) (0 : Nat) n2, V.bs true (5 : Nat) (0 : Nat) (m + 1)], some [V.bs true (3 : Nat) (0 : Nat) n3, V.bs true (6 : Nat) (0 : Nat) (m3 + 1), V.sb (lf3 == (1 : Int)), V.si IntKind.i64 (lft lf3)]], [some (Bf.live (BC.arr bty d)), some (Bf.live (BC.arr bty (cpy v off.toNat n2 (bytesOf (cs3 s))))), some Bf.dead, some (Bf.live (BC.arr bty d3)), some Bf.dead, some (Bf.live (BC.arr wp (List.take m q ++ [mkP off (cs3 s)]))), some (Bf.live (BC.arr wp (List.take m3 q3 ++ [mkP off (cs3 s)])))])) else none) else none) else none) else (bif pickD c (6 : Int) == (2 : Int) then none else (bif pickD c (6 : Int) == (3 : Int) then (bif decide (cn_w14 off k o lf n1 n2 m d v q) then (bif decide (cn_w20 off k n3 m3 dn lf3 d3 q3) then (bif (rdS o off k n1 v).toList == (rdS dn off k n3 (apN q3 m3 d3)).toList then (some (V.sb (rdE o off k n1 == rdE dn off k n3), [some [V.sb o, V.si IntKind.i64 lf, V.bs true (0 : Nat) (0 : Nat) n1, V.bs true (1 : Nat) (0 : Nat) n2, V.bs true (2 : Nat) (0 : Nat) m], some [V.bs true (3 : Nat) (0 : Nat) n3, V.bs true (4 : Nat) (0 : Nat) m3, V.sb dn, V.si IntKind.i64 lf3]], [some (Bf.live (BC.arr bty d)), some (Bf.live (BC.arr bty v)), some (Bf.live (BC.arr wp q)), some (Bf.live (BC.arr bty d3)), some (Bf.live (BC.arr wp q3))])) else (some (V.b false, [some [V.sb o, V.si IntKind.i64 lf, V.bs true (0 : Nat) (0 : Nat) n1, V.bs true (1 : Nat) (0 : Nat) n2, V.bs true (2 : Nat) (0 : Nat) m], some [V.bs true (3 : Nat) (0 : Nat) n3, V.bs true (4 : Nat) (0 : Nat) m3, V.sb dn, V.si IntKind.i64 lf3]], [some (Bf.live (BC.arr bty d)), some (Bf.live (BC.arr bty v)), some (Bf.live (BC.arr wp q)), some (Bf.live (BC.arr bty d3)), some (Bf.live (BC.arr wp q3))]))) else none) else none) else (bif pickD c (6 : Int) == (4 : Int) then (bif decide (cn_w24 k o lf n1 n2 m d v q) then (bif decide (cn_w32 k n3 m3 dn lf3 d3 q3) then (some (V.sb (ctE o k == ctE dn k), [some [V.sb (ctO o k), V.si IntKind.i64 (ctL o k lf), V.bs true (0 : Nat) (0 : Nat) n1, V.bs true (1 : Nat) (0 : Nat) n2, V.bs true (2 : Nat) (0 : Nat) m], some [V.bs true (3 : Nat) (0 : Nat) n3, V.bs true (4 : Nat) (0 : Nat) m3, V.sb (ctO dn k), V.si IntKind.i64 (ctL dn k lf3)]], [some (Bf.live (BC.arr bty d)), some (Bf.live (BC.arr bty v)), some (Bf.live (BC.arr wp q)), some (Bf.live (BC.arr bty d3)), some (Bf.live (BC.arr wp q3))])) else none) else none) else (bif decide ((0 : Int) ≤ (0 : Int) ∧ ((0 : Int) ≤ if (100 : Int) < (Nat.cast (ks.length) : Int) then (100 : Int) else (Nat.cast (ks.length) : Int)) ∧ (if (100 : Int) < (Nat.cast (ks.length) : Int) then (100 : Int) else (Nat.cast (ks.length) : Int)) ≤ (Nat.cast (ks.length) : Int)) then (bif decide (cn_g33 (ck1 ks) k n3 m3 dn lf3 d3 q3) then (bif decide (cn_g25b k lf o n1 n2 m (ck1 ks) d v q) then (some (V.b true, [some [V.b false, V.i IntKind.i64 (0 : Int), V.bs true (0 : Nat) (0 : Nat) n1, V.bs true (1 : Nat) (0 : Nat) n2, V.bs true (2 : Nat) (0 : Nat) (0 : Nat)], some [V.bs true (3 : Nat) (0 : Nat) n3, V.bs true (4 : Nat) (0 : Nat) (0 : Nat), V.b false, V.i IntKind.i64 (0 : Int)]], [some (Bf.live (BC.arr bty (crd k q m (ck1 ks) d))), some (Bf.live (BC.arr bty (crd k q m (ck1 ks) d))), some (Bf.live (BC.arr wp (qS q m))), some (Bf.live (BC.arr bty (crR k (flt (ck1 ks) q3 m3) (flt (ck1 ks) q3 m3).length d3))), some (Bf.live (BC.arr wp q3))])) else none) else none) else none)))))) else none) := by kernel_rfl
theorem z19S (c off k : Int) (s : ByteArray) (ks : List Int) (o : Bool) (lf : Int) (n1 n2 m : Nat) (n3 m3 : Nat) (dn : Bool) (lf3 : Int) (d v : List Int) (q : List (Ty.den wp)) (d3 : List Int) (q3 : List (Ty.den wp)) : (ev_z19 cfgSS [] c off k s ks o lf n1 n2 m n3 m3 dn lf3 d v q d3 q3).run = (bif inr c && true then (bif pickD c (6 : Int) == (0 : Int) then (bif pickD c (6 : Int) == (0 : Int) then (bif decide ((0 : Int) ≤ (0 : Int) ∧ ((0 : Int) ≤ if (300 : Int) < (Nat.cast (s.size) : Int) then (300 : Int) else (Nat.cast (s.size) : Int)) ∧ (if (300 : Int) < (Nat.cast (s.size) : Int) then (300 : Int) else (Nat.cast (s.size) : Int)) ≤ (Nat.cast (s.size) : Int)) then none else none) else (bif pickD c (6 : Int) == (2 : Int) then (bif decide (cn_w23w o lf n1 n2 m d v q) then (bif decide (cn_w31w n3 m3 dn lf3 d3 q3) then (some (V.b true, [some [V.sb o, V.si IntKind.i64 lf, V.bs true (0 : Nat) (0 : Nat) n1, V.bs true (1 : Nat) (0 : Nat) n2, V.bs true (2 : Nat) (0 : Nat) (0 : Nat)], some [V.bs true (5 : Nat) (0 : Nat) n3, V.bs true (4 : Nat) (0 : Nat) (0 : Nat), V.sb dn, V.si IntKind.i64 lf3]], [some (Bf.live (BC.arr bty v)), some (Bf.live (BC.arr bty v)), some (Bf.live (BC.arr wp (qS q m))), some (Bf.live (BC.arr bty d3)), some (Bf.live (BC.arr wp q3)), some (Bf.live (BC.arr bty (apN q3 m3 d3)))])) else none) else none) else (bif pickD c (6 : Int) == (3 : Int) then (bif decide (cn_w14 off k o lf n1 n2 m d v q) then (bif decide (cn_w20 off k n3 m3 dn lf3 d3 q3) then (bif (rdS o off k n1 v).toList == (rdS dn off k n3 (apN q3 m3 d3)).toList then (some (V.sb (rdE o off k n1 == rdE dn off k n3), [some [V.sb o, V.si IntKind.i64 lf, V.bs true (0 : Nat) (0 : Nat) n1, V.bs true (1 : Nat) (0 : Nat) n2, V.bs true (2 : Nat) (0 : Nat) m], some [V.bs true (3 : Nat) (0 : Nat) n3, V.bs true (4 : Nat) (0 : Nat) m3, V.sb dn, V.si IntKind.i64 lf3]], [some (Bf.live (BC.arr bty d)), some (Bf.live (BC.arr bty v)), some (Bf.live (BC.arr wp q)), some (Bf.live (BC.arr bty d3)), some (Bf.live (BC.arr wp q3))])) else (some (V.b false, [some [V.sb o, V.si IntKind.i64 lf, V.bs true (0 : Nat) (0 : Nat) n1, V.bs true (1 : Nat) (0 : Nat) n2, V.bs true (2 : Nat) (0 : Nat) m], some [V.bs true (3 : Nat) (0 : Nat) n3, V.bs true (4 : Nat) (0 : Nat) m3, V.sb dn, V.si IntKind.i64 lf3]], [some (Bf.live (BC.arr bty d)), some (Bf.live (BC.arr bty v)), some (Bf.live (BC.arr wp q)), some (Bf.live (BC.arr bty d3)), some (Bf.live (BC.arr wp q3))]))) else none) else none) else (bif pickD c (6 : Int) == (4 : Int) then (bif decide (cn_w24 k o lf n1 n2 m d v q) then (bif decide (cn_w32 k n3 m3 dn lf3 d3 q3) then (some (V.sb (ctE o k == ctE dn k), [some [V.sb (ctO o k), V.si IntKind.i64 (ctL o k lf), V.bs true (0 : Nat) (0 : Nat) n1, V.bs true (1 : Nat) (0 : Nat) n2, V.bs true (2 : Nat) (0 : Nat) m], some [V.bs true (3 : Nat) (0 : Nat) n3, V.bs true (4 : Nat) (0 : Nat) m3, V.sb (ctO dn k), V.si IntKind.i64 (ctL dn k lf3)]], [some (Bf.live (BC.arr bty d)), some (Bf.live (BC.arr bty v)), some (Bf.live (BC.arr wp q)), some (Bf.live (BC.arr bty d3)), some (Bf.live (BC.arr wp q3))])) else none) else none) else (bif decide ((0 : Int) ≤ (0 : Int) ∧ ((0 : Int) ≤ if (100 : Int) < (Nat.cast (ks.length) : Int) then (100 : Int) else (Nat.cast (ks.length) : Int)) ∧ (if (100 : Int) < (Nat.cast (ks.length) : Int) then (100 : Int) else (Nat.cast (ks.length) : Int)) ≤ (Nat.cast (ks.length) : Int)) then (bif decide (cn_g33 (ck1 ks) k n3 m3 dn lf3 d3 q3) then (bif decide (cn_g25b k lf o n1 n2 m (ck1 ks) d v q) then (some (V.b true, [some [V.b false, V.i IntKind.i64 (0 : Int), V.bs true (0 : Nat) (0 : Nat) n1, V.bs true (1 : Nat) (0 : Nat) n2, V.bs true (2 : Nat) (0 : Nat) (0 : Nat)], some [V.bs true (3 : Nat) (0 : Nat) n3, V.bs true (4 : Nat) (0 : Nat) (0 : Nat), V.b false, V.i IntKind.i64 (0 : Int)]], [some (Bf.live (BC.arr bty (crd k q m (ck1 ks) d))), some (Bf.live (BC.arr bty (crd k q m (ck1 ks) d))), some (Bf.live (BC.arr wp (qS q m))), some (Bf.live (BC.arr bty (crR k (flt (ck1 ks) q3 m3) (flt (ck1 ks) q3 m3).length d3))), some (Bf.live (BC.arr wp q3))])) else none) else none) else none))))) else (bif pickD c (6 : Int) == (1 : Int) then (bif decide ((0 : Int) ≤ (0 : Int) ∧ ((0 : Int) ≤ if (300 : Int) < (Nat.cast (s.size) : Int) then (300 : Int) else (Nat.cast (s.size) : Int)) ∧ (if (300 : Int) < (Nat.cast (s.size) : Int) then (300 : Int) else (Nat.cast (s.size) : Int)) ≤ (Nat.cast (s.size) : Int)) then none else none) else (bif pickD c (6 : Int) == (2 : Int) then (bif decide (cn_w23w o lf n1 n2 m d v q) then (bif decide (cn_w31w n3 m3 dn lf3 d3 q3) then (some (V.b true, [some [V.sb o, V.si IntKind.i64 lf, V.bs true (0 : Nat) (0 : Nat) n1, V.bs true (1 : Nat) (0 : Nat) n2, V.bs true (2 : Nat) (0 : Nat) (0 : Nat)], some [V.bs true (5 : Nat) (0 : Nat) n3, V.bs true (4 : Nat) (0 : Nat) (0 : Nat), V.sb dn, V.si IntKind.i64 lf3]], [some (Bf.live (BC.arr bty v)), some (Bf.live (BC.arr bty v)), some (Bf.live (BC.arr wp (qS q m))), some (Bf.live (BC.arr bty d3)), some (Bf.live (BC.arr wp q3)), some (Bf.live (BC.arr bty (apN q3 m3 d3)))])) else none) else none) else (bif pickD c (6 : Int) == (3 : Int) then (bif decide (cn_w14 off k o lf n1 n2 m d v q) then (bif decide (cn_w20 off k n3 m3 dn lf3 d3 q3) then (bif (rdS o off k n1 v).toList == (rdS dn off k n3 (apN q3 m3 d3)).toList then (some (V.sb (rdE o off k n1 == rdE dn off k n3), [some [V.sb o, V.si IntKind.i64 lf, V.bs true (0 : Nat) (0 : Nat) n1, V.bs true (1 : Nat) (0 : Nat) n2, V.bs true (2 : Nat) (0 : Nat) m], some [V.bs true (3 : Nat) (0 : Nat) n3, V.bs true (4 : Nat) (0 : Nat) m3, V.sb dn, V.si IntKind.i64 lf3]], [some (Bf.live (BC.arr bty d)), some (Bf.live (BC.arr bty v)), some (Bf.live (BC.arr wp q)), some (Bf.live (BC.arr bty d3)), some (Bf.live (BC.arr wp q3))])) else (some (V.b false, [some [V.sb o, V.si IntKind.i64 lf, V.bs true (0 : Nat) (0 : Nat) n1, V.bs true (1 : Nat) (0 : Nat) n2, V.bs true (2 : Nat) (0 : Nat) m], some [V.bs true (3 : Nat) (0 : Nat) n3, V.bs true (4 : Nat) (0 : Nat) m3, V.sb dn, V.si IntKind.i64 lf3]], [some (Bf.live (BC.arr bty d)), some (Bf.live (BC.arr bty v)), some (Bf.live (BC.arr wp q)), some (Bf.live (BC.arr bty d3)), some (Bf.live (BC.arr wp q3))]))) else none) else none) else (bif pickD c (6 : Int) == (4 : Int) then (bif decide (cn_w24 k o lf n1 n2 m d v q) then (bif decide (cn_w32 k n3 m3 dn lf3 d3 q3) then (some (V.sb (ctE o k == ctE dn k), [some [V.sb (ctO o k), V.si IntKind.i64 (ctL o k lf), V.bs true (0 : Nat) (0 : Nat) n1, V.bs true (1 : Nat) (0 : Nat) n2, V.bs true (2 : Nat) (0 : Nat) m], some [V.bs true (3 : Nat) (0 : Nat) n3, V.bs true (4 : Nat) (0 : Nat) m3, V.sb (ctO dn k), V.si IntKind.i64 (ctL dn k lf3)]], [some (Bf.live (BC.arr bty d)), some (Bf.live (BC.arr bty v)), some (Bf.live (BC.arr wp q)), some (Bf.live (BC.arr bty d3)), some (Bf.live (BC.arr wp q3))])) else none) else none) else (bif decide ((0 : Int) ≤ (0 : Int) ∧ ((0 : Int) ≤ if (100 : Int) < (Nat.cast (ks.length) : Int) then (100 : Int) else (Nat.cast (ks.length) : Int)) ∧ (if (100 : Int) < (Nat.cast (ks.length) : Int) then (100 : Int) else (Nat.cast (ks.length) : Int)) ≤ (Nat.cast (ks.length) : Int)) then (bif decide (cn_g33 (ck1 ks) k n3 m3 dn lf3 d3 q3) then (bif decide (cn_g25b k lf o n1 n2 m (ck1 ks) d v q) then (some (V.b true, [some [V.b false, V.i IntKind.i64 (0 : Int), V.bs true (0 : Nat) (0 : Nat) n1, V.bs true (1 : Nat) (0 : Nat) n2, V.bs true (2 : Nat) (0 : Nat) (0 : Nat)], some [V.bs true (3 : Nat) (0 : Nat) n3, V.bs true (4 : Nat) (0 : Nat) (0 : Nat), V.b false, V.i IntKind.i64 (0 : Int)]], [some (Bf.live (BC.arr bty (crd k q m (ck1 ks) d))), some (Bf.live (BC.arr bty (crd k q m (ck1 ks) d))), some (Bf.live (BC.arr wp (qS q m))), some (Bf.live (BC.arr bty (crR k (flt (ck1 ks) q3 m3) (flt (ck1 ks) q3 m3).length d3))), some (Bf.live (BC.arr wp q3))])) else none) else none) else none)))))) else none) := by kernel_rfl
end D
end Go.Proofs.Ytnjjkobijjdnbaa

/- Package disk: what a crash leaves, as the reference says it. -/
set_option linter.unusedVariables false
set_option linter.unusedSimpArgs false
set_option maxRecDepth 100000
set_option maxHeartbeats 4000000
namespace Go.Proofs.Ytnjjkobijjdnbaa
open Go
namespace D
theorem getD_take {c : List Int} {p r : Nat} (h : r < p) (hp : p ≤ c.length) : c.getD r 0 ∈ c.take p := by
  have hl : r < c.length := by omega
  have e : c.getD r 0 = (c.take p)[r]'(by rw [List.length_take]; omega) := by rw [List.getD_eq_getElem?_getD, List.getElem?_eq_getElem hl, Option.getD_some, List.getElem_take]
  rw [e]
  exact List.getElem_mem _
/-- A sorted list without doubles. -/
theorem dd_sorted {c : List Int} (hs : ∀ r, r + 1 < c.length → c.getD r 0 ≤ c.getD (r + 1) 0) : ∀ p, p ≤ c.length → (dd c p).Pairwise (· < ·) ∧ (∀ x ∈ dd c p, x ≤ c.getD (p - 1) 0) ∧ ∀ x, x ∈ dd c p ↔ x ∈ c.take p
  | 0, _ => ⟨List.Pairwise.nil, (fun x h => (nomatch h)), fun x => by simp [dd]⟩
  | p + 1, hp => by
    obtain ⟨a, b, m⟩ := dd_sorted hs p (by omega)
    have htk : c.take (p + 1) = c.take p ++ [c.getD p 0] := by
      rw [List.take_add_one, List.getElem?_eq_getElem (by omega)]
      simp [List.getD, show p < c.length by omega]
    rw [htk]
    simp only [dd, Nat.add_sub_cancel]
    split
    · rename_i h
      have hlt : ∀ x ∈ dd c p, x < c.getD p 0 := fun x hx => by
        rcases h with rfl | h
        · exact (nomatch hx)
        · have h1 := b x hx
          have h0 : p ≠ 0 := fun e => by subst e; exact (nomatch hx)
          have h2 := hs (p - 1) (by omega)
          rw [show p - 1 + 1 = p by omega] at h2
          omega
      refine ⟨?_, ?_, fun x => ?_⟩
      · rw [List.pairwise_append]
        exact ⟨a, List.pairwise_singleton _ _, fun x hx y hy => by rw [List.mem_singleton] at hy; subst hy; exact hlt x hx⟩
      · intro x hx
        rw [List.mem_append, List.mem_singleton] at hx
        rcases hx with hx | rfl
        · exact Int.le_of_lt (hlt x hx)
        · exact Int.le_refl _
      · rw [List.mem_append, List.mem_append, m x]
    · rename_i h
      have h0 : p ≠ 0 := fun e => h (.inl e)
      have he : c.getD p 0 = c.getD (p - 1) 0 := Decidable.byContradiction fun e => h (.inr e)
      refine ⟨a, fun x hx => by rw [he]; exact b x hx, fun x => ?_⟩
      rw [List.mem_append, List.mem_singleton, m x]
      refine ⟨.inl, ?_⟩
      rintro (h | rfl)
      · exact h
      · rw [he]; exact getD_take (by omega) (by omega)
theorem sorted_eq {a b : List Int} (ha : a.Pairwise (· < ·)) (hb : b.Pairwise (· < ·)) (h : ∀ x, x ∈ a ↔ x ∈ b) : a = b := by
  have na : a.Nodup := ha.imp (fun h => by omega)
  have nb : b.Nodup := hb.imp (fun h => by omega)
  exact List.Perm.eq_of_pairwise (le := (· < ·)) (fun x y _ _ h1 h2 => by omega) ha hb ((List.perm_ext_iff_of_nodup na nb).2 h)
theorem sortI_sorted (c : List Int) : ∀ r, r + 1 < (sortI c).length → (sortI c).getD r 0 ≤ (sortI c).getD (r + 1) 0 := by
  intro r hr
  have h : (sortI c).Pairwise (fun a b => decide (a ≤ b) = true) := List.pairwise_mergeSort (fun a b c h1 h2 => by
    have := of_decide_eq_true h1
    have := of_decide_eq_true h2
    exact decide_eq_true (by omega)) (fun a b => by
    rw [Bool.or_eq_true, decide_eq_true_eq, decide_eq_true_eq]; omega) _
  have := of_decide_eq_true (List.pairwise_iff_getElem.1 h r (r + 1) (by omega) hr (by omega))
  rw [List.getD_eq_getElem?_getD, List.getD_eq_getElem?_getD, List.getElem?_eq_getElem hr, List.getElem?_eq_getElem (by omega : r < (sortI c).length)]
  exact this
theorem hasB_iff (k : List Int) (x : Int) : hasB k x = true ↔ x ∈ k := by
  unfold hasB
  rw [decide_eq_true_eq, List.findIdx_lt_length]
  constructor
  · rintro ⟨y, hy, he⟩
    rw [beq_iff_eq] at he
    subst he
    exact hy
  · intro h
    exact ⟨x, h, by rw [beq_iff_eq]⟩
/-- The kept writes' numbers, in order. -/
def idxs (k : List Int) (m : Nat) : List Nat := (List.range m).filter (fun r : Nat => hasB k (r : Int))
theorem ord_idxs (m : Nat) (k : List Int) : ordO m k = (idxs k m).map (fun r : Nat => (r : Int)) := by
  have hlen : k.length = (sortI k).length := (sortI_len k).symm
  obtain ⟨a, _, c⟩ := dd_sorted (sortI_sorted k) (sortI k).length (Nat.le_refl _)
  unfold ordO
  rw [hlen]
  refine sorted_eq (a.filter _) ?_ ?_
  · rw [List.pairwise_map]
    exact (List.pairwise_lt_range.filter _).imp (fun h => by omega)
  · intro x
    rw [List.mem_filter, c x, List.take_length, show x ∈ sortI k ↔ x ∈ k from (List.mergeSort_perm k _).mem_iff, List.mem_map]
    unfold idxs out
    constructor
    · rintro ⟨h1, h2⟩
      by_cases h0 : x < 0
      · rw [decide_eq_true h0] at h2; simp at h2
      · rw [decide_eq_false h0] at h2
        simp at h2
        refine ⟨x.toNat, ?_, by omega⟩
        rw [List.mem_filter, List.mem_range]
        refine ⟨by omega, ?_⟩
        rw [show ((x.toNat : Nat) : Int) = x by omega]
        exact (hasB_iff k x).2 h1
    · rintro ⟨r, hr, rfl⟩
      rw [List.mem_filter, List.mem_range] at hr
      refine ⟨(hasB_iff k r).1 hr.2, ?_⟩
      rw [decide_eq_false (by omega), decide_eq_false (by omega)]
      rfl
theorem flt_idxs (k : List Int) (q : List (Ty.den wp)) (m : Nat) : flt k q m = (idxs k m).map (fun r => q.getD r wp.dflt) := rfl
theorem same_get {q q3 : List (Ty.den wp)} {m r : Nat} (h1 : m ≤ q.length) (h3 : m ≤ q3.length) (he : q.take m = q3.take m) (hr : r < m) : q.getD r wp.dflt = q3.getD r wp.dflt := by
  have e : ∀ l : List (Ty.den wp), m ≤ l.length → l.getD r wp.dflt = (l.take m).getD r wp.dflt := fun l hl => by
    rw [List.getD_eq_getElem?_getD, List.getD_eq_getElem?_getD, List.getElem?_take_of_lt hr]
  rw [e q h1, e q3 h3, he]
theorem crs_crR {torn : Int} {k : List Int} {q q3 : List (Ty.den wp)} {m : Nat} {d : List Int} (h1 : m ≤ q.length) (h3 : m ≤ q3.length) (he : q.take m = q3.take m) (hf : ∀ w ∈ q3.take m, fitW d.length w) :
    ∀ r, r ≤ (idxs k m).length → crs torn q ((idxs k m).map (fun r : Nat => (r : Int))) d.length (idxs k m).length r d = crR torn (flt k q3 m) r d ∧ (crR torn (flt k q3 m) r d).length = d.length
  | 0, _ => ⟨rfl, rfl⟩
  | r + 1, hr => by
    obtain ⟨ih, il⟩ := crs_crR (torn := torn) (k := k) h1 h3 he hf r (by omega)
    have hlt : r < (idxs k m).length := by omega
    have hp : (idxs k m)[r] < m := by
      have := List.getElem_mem hlt
      unfold idxs at this
      rw [List.mem_filter, List.mem_range] at this
      exact this.1
    have hget : Int.toNat (((idxs k m).map (fun r : Nat => (r : Int))).getD (0 + (r : Int).toNat) 0) = (idxs k m)[r] := by
      rw [Int.toNat_natCast, Nat.zero_add, List.getD_eq_getElem?_getD, List.getElem?_map, List.getElem?_eq_getElem hlt]
      rfl
    have hq : q.getD (idxs k m)[r] wp.dflt = (flt k q3 m).getD r wp.dflt := by
      rw [same_get h1 h3 he hp, flt_idxs, List.getD_eq_getElem?_getD (l := List.map _ _), List.getElem?_map, List.getElem?_eq_getElem hlt]
      rfl
    have hO : peO q ((idxs k m).map (fun r : Nat => (r : Int))) r = offs ((flt k q3 m).getD r wp.dflt) := by unfold peO; rw [hget, Nat.zero_add, hq]; rfl
    have hS : peS q ((idxs k m).map (fun r : Nat => (r : Int))) r = pS' ((flt k q3 m).getD r wp.dflt) := by unfold peS; rw [hget, Nat.zero_add, hq]; rfl
    have hL : (flt k q3 m).length = (idxs k m).length := by rw [flt_idxs, List.length_map]
    have hs : (if r + 1 = (idxs k m).length ∧ torn ≥ 0 then peT torn q ((idxs k m).map (fun r : Nat => (r : Int))) r else peS q ((idxs k m).map (fun r : Nat => (r : Int))) r) = sR torn (flt k q3 m) r := by
      unfold sR peT
      rw [hS, hL]
      generalize pS' ((flt k q3 m).getD r wp.dflt) = X
      by_cases a : r + 1 = (idxs k m).length ∧ torn ≥ 0
      · rw [if_pos a]
        by_cases b : torn < (X.size : Int)
        · rw [if_pos ⟨a.1, a.2, b⟩, show (tmin torn X).toNat = torn.toNat by unfold tmin; split <;> omega]
        · rw [if_neg (fun h => b h.2.2), show (tmin torn X).toNat = X.size by unfold tmin; split <;> omega]
          simp
      · rw [if_neg a, if_neg (fun h => a ⟨h.1, h.2.1⟩)]
    have hfit : fitW d.length ((flt k q3 m).getD r wp.dflt) := by
      refine flt_fit (k := k) h3 hf _ ?_
      rw [List.getD_eq_getElem?_getD, List.getElem?_eq_getElem (by omega), Option.getD_some]
      exact List.getElem_mem _
    have hsz := sR_size torn (flt k q3 m) r
    obtain ⟨f1, f2⟩ := hfit
    simp only [crs, crR]
    rw [ih, hO, hs, cpy_putN (by omega) (by omega)]
    exact ⟨rfl, by rw [putN_len (by omega) (Nat.le_refl _), il]⟩
/-- Both disks have the same content behind a crash. -/
theorem crd_crR {torn : Int} {k : List Int} {q q3 : List (Ty.den wp)} {m : Nat} {d : List Int} (h1 : m ≤ q.length) (h3 : m ≤ q3.length) (he : q.take m = q3.take m) (hf : ∀ w ∈ q3.take m, fitW d.length w) :
    crR torn (flt k q3 m) (flt k q3 m).length d = crd torn q m k d ∧ (crd torn q m k d).length = d.length := by
  obtain ⟨a, b⟩ := crs_crR (torn := torn) (k := k) h1 h3 he hf _ (Nat.le_refl _)
  have hL : (flt k q3 m).length = (idxs k m).length := by rw [flt_idxs, List.length_map]
  unfold crd
  rw [ord_idxs, List.length_map, a, hL]
  exact ⟨rfl, b⟩
end D
end Go.Proofs.Ytnjjkobijjdnbaa

/- Package disk: one step on both disks, as contracts. -/
set_option linter.unusedVariables false
set_option linter.unusedSimpArgs false
set_option maxRecDepth 100000
set_option maxHeartbeats 4000000
namespace Go.Proofs.Ytnjjkobijjdnbaa
open Go
namespace D
instance : DecidableEq (Ty.den wp) := inferInstanceAs (DecidableEq (Int × ByteArray × Unit))
/-- Both disks lie alike. -/
structure preM (o : Bool) (lf : Int) (n1 n2 m : Nat) (n3 m3 : Nat) (dn : Bool) (lf3 : Int) (d v : List Int) (q : List (Ty.den wp)) (d3 : List Int) (q3 : List (Ty.den wp)) : Prop where
  he : dn = o ∧ lf3 = lf ∧ d3 = d ∧ n2 = n1 ∧ n3 = n1 ∧ m3 = m
  dl : d.length = n1
  vl : v.length = n1
  hn : n1 ≤ 4194304
  hm : m ≤ 1000
  mq : m ≤ q.length
  mq3 : m ≤ q3.length
  tk : q.take m = q3.take m
  qo : ∀ w ∈ q, 0 ≤ offs w ∧ offs w ≤ (n1 : Int)
  fi : ∀ w ∈ q3.take m, fitW n1 w
  ap : v = apN q3 m d
  hlf : 0 ≤ lf ∧ lf ≤ 9223372036854775807
noncomputable instance (o : Bool) (lf : Int) (n1 n2 m : Nat) (n3 m3 : Nat) (dn : Bool) (lf3 : Int) (d v : List Int) (q : List (Ty.den wp)) (d3 : List Int) (q3 : List (Ty.den wp)) : Decidable (preM o lf n1 n2 m n3 m3 dn lf3 d v q d3 q3) := Classical.propDecidable _
def oF (c : Int) (o : Bool) (k : Int) : Bool := if pickD c 6 ≤ 3 then o else if pickD c 6 = 4 then ctO o k else false
def lF (c : Int) (o : Bool) (k lf : Int) : Int := if pickD c 6 ≤ 3 then lf else if pickD c 6 = 4 then ctL o k lf else 0
def mF (c : Int) (m : Nat) : Nat := if pickD c 6 ≤ 4 then m else 0
def dF (c k : Int) (q : List (Ty.den wp)) (m : Nat) (ks d x : List Int) : List Int := if pickD c 6 ≤ 4 then x else crd k q m (ck1 ks) d
def qF (c : Int) (q : List (Ty.den wp)) (m : Nat) : List (Ty.den wp) := if pickD c 6 ≤ 4 then q else qS q m
theorem pick6 (c : Int) : pickD c 6 = 0 ∨ pickD c 6 = 1 ∨ pickD c 6 = 2 ∨ pickD c 6 = 3 ∨ pickD c 6 = 4 ∨ pickD c 6 = 5 := by
  have := pickD_lt (k := c) (n := 6) (by decide)
  omega
theorem ck1_len (ks : List Int) : (ck1 ks).length ≤ 100 := by
  unfold ck1
  rw [List.drop_zero, List.length_take]
  split <;> omega
theorem preM.g34 {o : Bool} {lf : Int} {n1 n2 m : Nat} {n3 m3 : Nat} {dn : Bool} {lf3 : Int} {d v : List Int} {q : List (Ty.den wp)} {d3 : List Int} {q3 : List (Ty.den wp)} (h : preM o lf n1 n2 m n3 m3 dn lf3 d v q d3 q3) : cn_g34 n3 m3 dn lf3 d3 q3 := by
  obtain ⟨rfl, rfl, rfl, rfl, rfl, rfl⟩ := h.he
  exact ⟨h.dl.symm, h.hn, h.mq3, h.hm, h.fi⟩
theorem rd_same {o : Bool} {off k : Int} {n : Nat} {v : List Int} : ((rdS o off k n v).toList == (rdS o off k n v).toList) = true := by simp
def fp_uF : FP := ⟨[.ptr 0 0, .ptr 1 0, .ty yt], [.cells [.ty .bool, .ty ity, .bz 0, .bz 1, .bz 2], .cells [.bz 3, .bz 4, .ty .bool, .ty ity]], [.arr bty, .arr bty, .arr wp, .arr bty, .arr wp]⟩
abbrev cn_uF (c off k : Int) (s : ByteArray) (ks : List Int) (o : Bool) (lf : Int) (n1 n2 m : Nat) (n3 m3 : Nat) (dn : Bool) (lf3 : Int) (d v : List Int) (q : List (Ty.den wp)) (d3 : List Int) (q3 : List (Ty.den wp)) : Prop := preM o lf n1 n2 m n3 m3 dn lf3 d v q d3 q3 ∧ inr c = true ∧ (pickD c 6 ≤ 1 → (o = true ∨ ¬ fitB off (cs3 s).size n1)) ∧ (pickD c 6 = 2 → o = true)
noncomputable def cr_uF (c off k : Int) (s : ByteArray) (ks : List Int) (o : Bool) (lf : Int) (n1 n2 m : Nat) (n3 m3 : Nat) (dn : Bool) (lf3 : Int) (d v : List Int) (q : List (Ty.den wp)) (d3 : List Int) (q3 : List (Ty.den wp)) : Option Bool × V × Ob × Nm := (some (decide (cn_uF c off k s ks o lf n1 n2 m n3 m3 dn lf3 d v q d3 q3)), .sb true, [some [.sb (oF c o k), .si .i64 (lF c o k lf), .bs true 0 0 n1, .bs true 1 0 n2, .bs true 2 0 (mF c m)], some [.bs true 3 0 n3, .bs true 4 0 (mF c m3), .sb (oF c dn k), .si .i64 (lF c dn k lf3)]], [some (.live (.arr bty (dF c k q m ks d d))), some (.live (.arr bty (dF c k q m ks d v))), some (.live (.arr wp (qF c q m))), some (.live (.arr bty (dF c k q m ks d d3))), some (.live (.arr wp q3))])
noncomputable def ct_uF := Ct.by fp_uF fun ⟨(_, _, (c, off, k, s, ks, _), _), ((o, lf, n1, n2, m, _), (n3, m3, dn, lf3, _), _), (d, v, q, d3, q3, _)⟩ => cr_uF c off k s ks o lf n1 n2 m n3 m3 dn lf3 d v q d3 q3
abbrev sf_uF (c off k : Int) (s : ByteArray) (ks : List Int) (o : Bool) (lf : Int) (n1 n2 m : Nat) (n3 m3 : Nat) (dn : Bool) (lf3 : Int) (d v : List Int) (q : List (Ty.den wp)) (d3 : List Int) (q3 : List (Ty.den wp)) : Prop := SemF Try.prog Γ 19 (SP.vals fp_uF.sp ((), (), (c, off, k, s, ks, ()), ())) (OP.vals fp_uF.op ((o, lf, n1, n2, m, ()), (n3, m3, dn, lf3, ()), ())) (BP.vals fp_uF.bp (d, v, q, d3, q3, ())) (.sb true) ([some [.sb (oF c o k), .si .i64 (lF c o k lf), .bs true 0 0 n1, .bs true 1 0 n2, .bs true 2 0 (mF c m)], some [.bs true 3 0 n3, .bs true 4 0 (mF c m3), .sb (oF c dn k), .si .i64 (lF c dn k lf3)]]) ([some (.live (.arr bty (dF c k q m ks d d))), some (.live (.arr bty (dF c k q m ks d v))), some (.live (.arr wp (qF c q m))), some (.live (.arr bty (dF c k q m ks d d3))), some (.live (.arr wp q3))])
noncomputable def ev_uF (C : Cfg) (lv : List Nat) (c off k : Int) (s : ByteArray) (ks : List Int) (o : Bool) (lf : Int) (n1 n2 m : Nat) (n3 m3 : Nat) (dn : Bool) (lf3 : Int) (d v : List Int) (q : List (Ty.den wp)) (d3 : List Int) (q3 : List (Ty.den wp)) := evV Try.prog Γ C lv 19 (SP.vals fp_uF.sp ((), (), (c, off, k, s, ks, ()), ())) (OP.vals fp_uF.op ((o, lf, n1, n2, m, ()), (n3, m3, dn, lf3, ()), ())) (BP.vals fp_uF.bp (d, v, q, d3, q3, ()))
theorem cr_uF_ok (c off k : Int) (s : ByteArray) (ks : List Int) (o : Bool) (lf : Int) (n1 n2 m : Nat) (n3 m3 : Nat) (dn : Bool) (lf3 : Int) (d v : List Int) (q : List (Ty.den wp)) (d3 : List Int) (q3 : List (Ty.den wp)) (h : (cr_uF c off k s ks o lf n1 n2 m n3 m3 dn lf3 d v q d3 q3).1.getD true = true) : cn_uF c off k s ks o lf n1 n2 m n3 m3 dn lf3 d v q d3 q3 := of_decide_eq_true h
theorem ct_uF_ok (H : ∀ (c off k : Int) (s : ByteArray) (ks : List Int) (o : Bool) (lf : Int) (n1 n2 m : Nat) (n3 m3 : Nat) (dn : Bool) (lf3 : Int) (d v : List Int) (q : List (Ty.den wp)) (d3 : List Int) (q3 : List (Ty.den wp)), cn_uF c off k s ks o lf n1 n2 m n3 m3 dn lf3 d v q d3 q3 → sf_uF c off k s ks o lf n1 n2 m n3 m3 dn lf3 d v q d3 q3) : ∀ args ob nm c v ob1 nm1, ct_uF args ob nm = some (c, v, ob1, nm1) → c.getD true = true → SemF Try.prog Γ 19 args ob nm v ob1 nm1 := Ct.by_ok fun ⟨(_, _, (c, off, k, s, ks, _), _), ((o, lf, n1, n2, m, _), (n3, m3, dn, lf3, _), _), (d, v, q, d3, q3, _)⟩ h => H c off k s ks o lf n1 n2 m n3 m3 dn lf3 d v q d3 q3 (cr_uF_ok c off k s ks o lf n1 n2 m n3 m3 dn lf3 d v q d3 q3 h)
theorem uF_go (c off k : Int) (s : ByteArray) (ks : List Int) (o : Bool) (lf : Int) (n1 n2 m : Nat) (n3 m3 : Nat) (dn : Bool) (lf3 : Int) (d v : List Int) (q : List (Ty.den wp)) (d3 : List Int) (q3 : List (Ty.den wp)) (h : cn_uF c off k s ks o lf n1 n2 m n3 m3 dn lf3 d v q d3 q3) : sf_uF c off k s ks o lf n1 n2 m n3 m3 dn lf3 d v q d3 q3 := by
  obtain ⟨hM, hc, hw, hs⟩ := h
  have g34 := hM.g34
  obtain ⟨rfl, rfl, rfl, rfl, rfl, rfl⟩ := hM.he
  have e := z19F c off k s ks dn lf3 n3 n3 m3 n3 m3 dn lf3 d3 v q d3 q3
  have h30 : ∀ z : ByteArray, (if (300 : Int) < (z.size : Int) then (300 : Int) else (z.size : Int)) ≤ z.size ∧ (0 : Int) ≤ (if (300 : Int) < (z.size : Int) then (300 : Int) else (z.size : Int)) := fun z => by split <;> omega
  have h10 : ∀ z : List Int, (if (100 : Int) < (z.length : Int) then (100 : Int) else (z.length : Int)) ≤ z.length ∧ (0 : Int) ≤ (if (100 : Int) < (z.length : Int) then (100 : Int) else (z.length : Int)) := fun z => by split <;> omega
  have hp3 : (0 : Int) ≤ (0 : Int) ∧ ((0 : Int) ≤ if (300 : Int) < (Nat.cast (s.size) : Int) then (300 : Int) else (Nat.cast (s.size) : Int)) ∧ (if (300 : Int) < (Nat.cast (s.size) : Int) then (300 : Int) else (Nat.cast (s.size) : Int)) ≤ (Nat.cast (s.size) : Int) := ⟨Int.le_refl _, (h30 s).2, (h30 s).1⟩
  have hp1 : (0 : Int) ≤ (0 : Int) ∧ ((0 : Int) ≤ if (100 : Int) < (Nat.cast (ks.length) : Int) then (100 : Int) else (Nat.cast (ks.length) : Int)) ∧ (if (100 : Int) < (Nat.cast (ks.length) : Int) then (100 : Int) else (Nat.cast (ks.length) : Int)) ≤ (Nat.cast (ks.length) : Int) := ⟨Int.le_refl _, (h10 ks).2, (h10 ks).1⟩
  rw [hc, decide_eq_true hp3, decide_eq_true hp1] at e
  show SemF _ _ _ _ _ _ _ [some [.sb (oF c dn k), .si .i64 (lF c dn k lf3), _, _, .bs true 2 0 (mF c m3)], some [_, .bs true 4 0 (mF c m3), .sb (oF c dn k), .si .i64 (lF c dn k lf3)]] [some (.live (.arr bty (dF c k q m3 ks d3 d3))), some (.live (.arr bty (dF c k q m3 ks d3 v))), some (.live (.arr wp (qF c q m3))), some (.live (.arr bty (dF c k q m3 ks d3 d3))), _]
  unfold oF lF mF dF qF
  rcases pick6 c with hK | hK | hK | hK | hK | hK
  · have c1 : cn_w21f off (cs3 s) dn lf3 n3 n3 m3 d3 v q := ⟨hw (by omega), hM.dl, hM.hn⟩
    have c2 : cn_w30f off (cs3 s) n3 m3 dn lf3 d3 q3 := ⟨hw (by omega), hM.hn⟩
    rw [hK, decide_eq_true c1, decide_eq_true c2] at e
    rw [hK]
    have h0 := SemF.of_tree cfgSF_ok (lv := []) (e.trans rfl)
    rw [beq_self_eq_true] at h0
    exact h0
  · have c1 : cn_w21f off (cs3 s) dn lf3 n3 n3 m3 d3 v q := ⟨hw (by omega), hM.dl, hM.hn⟩
    have c2 : cn_w30f off (cs3 s) n3 m3 dn lf3 d3 q3 := ⟨hw (by omega), hM.hn⟩
    rw [hK, decide_eq_true c1, decide_eq_true c2] at e
    rw [hK]
    have h0 := SemF.of_tree cfgSF_ok (lv := []) (e.trans rfl)
    rw [beq_self_eq_true] at h0
    exact h0
  · have c1 : cn_w23f dn lf3 n3 n3 m3 d3 v q := hs hK
    rw [hK, decide_eq_true c1] at e
    rw [hK]
    exact (SemF.of_tree cfgSF_ok (lv := []) (e.trans rfl)).weaken fun G cv h => by cases h; exact .sb _
  · have c1 : cn_w14 off k dn lf3 n3 n3 m3 d3 v q := ⟨hM.dl, hM.hn, rfl⟩
    have c2 : cn_w20 off k n3 m3 dn lf3 d3 q3 := g34
    rw [hK, decide_eq_true c1, decide_eq_true c2, ← hM.ap, rd_same] at e
    rw [hK]
    have h0 := SemF.of_tree cfgSF_ok (lv := []) (e.trans rfl)
    rw [beq_self_eq_true] at h0
    exact h0
  · have c1 : cn_w24 k dn lf3 n3 n3 m3 d3 v q := trivial
    rw [hK, decide_eq_true c1] at e
    rw [hK]
    have h0 := SemF.of_tree cfgSF_ok (lv := []) (e.trans rfl)
    rw [beq_self_eq_true] at h0
    exact h0
  · have hf := hM.fi
    rw [← hM.dl] at hf
    have hcr := crd_crR (torn := k) (k := ck1 ks) hM.mq hM.mq3 hM.tk hf
    have c1 : cn_g25b k lf3 dn n3 n3 m3 (ck1 ks) d3 v q := ⟨by have := ck1_len ks; omega, hM.mq, hM.dl, hM.vl, rfl, hM.qo⟩
    have c2 : cn_g33 (ck1 ks) k n3 m3 dn lf3 d3 q3 := ⟨by have := ck1_len ks; omega, hM.dl.symm, hM.hn, hM.mq3, hM.hm, hM.fi⟩
    rw [hK, decide_eq_true c1, decide_eq_true c2, hcr.1] at e
    rw [hK]
    have h0 := (SemF.of_tree cfgSF_ok (lv := []) (e.trans rfl)).weaken (v' := .sb true) fun G cv h => by cases h; exact .sb _
    exact h0.post_pat (op := [.cells [.ty .bool, .ty ity, .bz 0, .bz 1, .bz 2], .cells [.bz 3, .bz 4, .ty .bool, .ty ity]]) (bp := [.arr bty, .arr bty, .arr wp, .arr bty, .arr wp]) rfl rfl
def fp_uW : FP := ⟨[.ptr 0 0, .ptr 1 0, .ty yt], [.cells [.ty .bool, .ty ity, .bz 0, .bz 1, .bz 2], .cells [.bz 3, .bz 4, .ty .bool, .ty ity]], [.arr bty, .arr bty, .arr wp, .arr bty, .arr wp]⟩
abbrev cn_uW (c off k : Int) (s : ByteArray) (ks : List Int) (o : Bool) (lf : Int) (n1 n2 m : Nat) (n3 m3 : Nat) (dn : Bool) (lf3 : Int) (d v : List Int) (q : List (Ty.den wp)) (d3 : List Int) (q3 : List (Ty.den wp)) : Prop := preM o lf n1 n2 m n3 m3 dn lf3 d v q d3 q3 ∧ inr c = true ∧ pickD c 6 ≤ 1 ∧ o = false ∧ fitB off (cs3 s).size n1
noncomputable def cr_uW (c off k : Int) (s : ByteArray) (ks : List Int) (o : Bool) (lf : Int) (n1 n2 m : Nat) (n3 m3 : Nat) (dn : Bool) (lf3 : Int) (d v : List Int) (q : List (Ty.den wp)) (d3 : List Int) (q3 : List (Ty.den wp)) : Option Bool × V × Ob × Nm := (some (decide (cn_uW c off k s ks o lf n1 n2 m n3 m3 dn lf3 d v q d3 q3)), .b true, [some [.sb (lf == 1), .si .i64 (lft lf), .bs true 0 0 n1, .bs true 1 0 n2, .bs true 5 0 (m + 1)], some [.bs true 3 0 n3, .bs true 6 0 (m3 + 1), .sb (lf3 == 1), .si .i64 (lft lf3)]], [some (.live (.arr bty d)), some (.live (.arr bty (cpy v off.toNat n2 (bytesOf (cs3 s))))), some .dead, some (.live (.arr bty d3)), some .dead, some (.live (.arr wp (List.take m q ++ [mkP off (cs3 s)]))), some (.live (.arr wp (List.take m3 q3 ++ [mkP off (cs3 s)])))])
noncomputable def ct_uW := Ct.by fp_uW fun ⟨(_, _, (c, off, k, s, ks, _), _), ((o, lf, n1, n2, m, _), (n3, m3, dn, lf3, _), _), (d, v, q, d3, q3, _)⟩ => cr_uW c off k s ks o lf n1 n2 m n3 m3 dn lf3 d v q d3 q3
abbrev sf_uW (c off k : Int) (s : ByteArray) (ks : List Int) (o : Bool) (lf : Int) (n1 n2 m : Nat) (n3 m3 : Nat) (dn : Bool) (lf3 : Int) (d v : List Int) (q : List (Ty.den wp)) (d3 : List Int) (q3 : List (Ty.den wp)) : Prop := SemF Try.prog Γ 19 (SP.vals fp_uW.sp ((), (), (c, off, k, s, ks, ()), ())) (OP.vals fp_uW.op ((o, lf, n1, n2, m, ()), (n3, m3, dn, lf3, ()), ())) (BP.vals fp_uW.bp (d, v, q, d3, q3, ())) (.b true) ([some [.sb (lf == 1), .si .i64 (lft lf), .bs true 0 0 n1, .bs true 1 0 n2, .bs true 5 0 (m + 1)], some [.bs true 3 0 n3, .bs true 6 0 (m3 + 1), .sb (lf3 == 1), .si .i64 (lft lf3)]]) ([some (.live (.arr bty d)), some (.live (.arr bty (cpy v off.toNat n2 (bytesOf (cs3 s))))), some .dead, some (.live (.arr bty d3)), some .dead, some (.live (.arr wp (List.take m q ++ [mkP off (cs3 s)]))), some (.live (.arr wp (List.take m3 q3 ++ [mkP off (cs3 s)])))])
noncomputable def ev_uW (C : Cfg) (lv : List Nat) (c off k : Int) (s : ByteArray) (ks : List Int) (o : Bool) (lf : Int) (n1 n2 m : Nat) (n3 m3 : Nat) (dn : Bool) (lf3 : Int) (d v : List Int) (q : List (Ty.den wp)) (d3 : List Int) (q3 : List (Ty.den wp)) := evV Try.prog Γ C lv 19 (SP.vals fp_uW.sp ((), (), (c, off, k, s, ks, ()), ())) (OP.vals fp_uW.op ((o, lf, n1, n2, m, ()), (n3, m3, dn, lf3, ()), ())) (BP.vals fp_uW.bp (d, v, q, d3, q3, ()))
theorem cr_uW_ok (c off k : Int) (s : ByteArray) (ks : List Int) (o : Bool) (lf : Int) (n1 n2 m : Nat) (n3 m3 : Nat) (dn : Bool) (lf3 : Int) (d v : List Int) (q : List (Ty.den wp)) (d3 : List Int) (q3 : List (Ty.den wp)) (h : (cr_uW c off k s ks o lf n1 n2 m n3 m3 dn lf3 d v q d3 q3).1.getD true = true) : cn_uW c off k s ks o lf n1 n2 m n3 m3 dn lf3 d v q d3 q3 := of_decide_eq_true h
theorem ct_uW_ok (H : ∀ (c off k : Int) (s : ByteArray) (ks : List Int) (o : Bool) (lf : Int) (n1 n2 m : Nat) (n3 m3 : Nat) (dn : Bool) (lf3 : Int) (d v : List Int) (q : List (Ty.den wp)) (d3 : List Int) (q3 : List (Ty.den wp)), cn_uW c off k s ks o lf n1 n2 m n3 m3 dn lf3 d v q d3 q3 → sf_uW c off k s ks o lf n1 n2 m n3 m3 dn lf3 d v q d3 q3) : ∀ args ob nm c v ob1 nm1, ct_uW args ob nm = some (c, v, ob1, nm1) → c.getD true = true → SemF Try.prog Γ 19 args ob nm v ob1 nm1 := Ct.by_ok fun ⟨(_, _, (c, off, k, s, ks, _), _), ((o, lf, n1, n2, m, _), (n3, m3, dn, lf3, _), _), (d, v, q, d3, q3, _)⟩ h => H c off k s ks o lf n1 n2 m n3 m3 dn lf3 d v q d3 q3 (cr_uW_ok c off k s ks o lf n1 n2 m n3 m3 dn lf3 d v q d3 q3 h)
theorem uW_go (c off k : Int) (s : ByteArray) (ks : List Int) (o : Bool) (lf : Int) (n1 n2 m : Nat) (n3 m3 : Nat) (dn : Bool) (lf3 : Int) (d v : List Int) (q : List (Ty.den wp)) (d3 : List Int) (q3 : List (Ty.den wp)) (h : cn_uW c off k s ks o lf n1 n2 m n3 m3 dn lf3 d v q d3 q3) : sf_uW c off k s ks o lf n1 n2 m n3 m3 dn lf3 d v q d3 q3 := by
  obtain ⟨hM, hc, hw, ho, hf⟩ := h
  obtain ⟨rfl, rfl, rfl, rfl, rfl, rfl⟩ := hM.he
  have e := z19W c off k s ks dn lf3 n3 n3 m3 n3 m3 dn lf3 d3 v q d3 q3
  have h30 : ∀ z : ByteArray, (if (300 : Int) < (z.size : Int) then (300 : Int) else (z.size : Int)) ≤ z.size ∧ (0 : Int) ≤ (if (300 : Int) < (z.size : Int) then (300 : Int) else (z.size : Int)) := fun z => by split <;> omega
  have hp3 : (0 : Int) ≤ (0 : Int) ∧ ((0 : Int) ≤ if (300 : Int) < (Nat.cast (s.size) : Int) then (300 : Int) else (Nat.cast (s.size) : Int)) ∧ (if (300 : Int) < (Nat.cast (s.size) : Int) then (300 : Int) else (Nat.cast (s.size) : Int)) ≤ (Nat.cast (s.size) : Int) := ⟨Int.le_refl _, (h30 s).2, (h30 s).1⟩
  rw [hc, decide_eq_true hp3] at e
  have c1 : cn_w21w off (cs3 s) dn lf3 n3 n3 m3 d3 v q := ⟨ho, hf, ⟨hM.mq, hM.dl, hM.vl, rfl, hM.qo⟩, hM.hm, hM.hn, hM.hlf.1, hM.hlf.2⟩
  have c2 : cn_w30w off (cs3 s) n3 m3 dn lf3 d3 q3 := ⟨ho, hf, hM.hm, hM.hn, hM.hlf.1, hM.hlf.2⟩
  rw [decide_eq_true c1, decide_eq_true c2] at e
  rcases pick6 c with hK | hK | hK | hK | hK | hK
  · rw [hK] at e; exact SemF.of_tree cfgSW_ok (lv := []) (e.trans rfl)
  · rw [hK] at e; exact SemF.of_tree cfgSW_ok (lv := []) (e.trans rfl)
  all_goals omega
def fp_uS : FP := ⟨[.ptr 0 0, .ptr 1 0, .ty yt], [.cells [.ty .bool, .ty ity, .bz 0, .bz 1, .bz 2], .cells [.bz 3, .bz 4, .ty .bool, .ty ity]], [.arr bty, .arr bty, .arr wp, .arr bty, .arr wp]⟩
abbrev cn_uS (c off k : Int) (s : ByteArray) (ks : List Int) (o : Bool) (lf : Int) (n1 n2 m : Nat) (n3 m3 : Nat) (dn : Bool) (lf3 : Int) (d v : List Int) (q : List (Ty.den wp)) (d3 : List Int) (q3 : List (Ty.den wp)) : Prop := preM o lf n1 n2 m n3 m3 dn lf3 d v q d3 q3 ∧ inr c = true ∧ pickD c 6 = 2 ∧ o = false
noncomputable def cr_uS (c off k : Int) (s : ByteArray) (ks : List Int) (o : Bool) (lf : Int) (n1 n2 m : Nat) (n3 m3 : Nat) (dn : Bool) (lf3 : Int) (d v : List Int) (q : List (Ty.den wp)) (d3 : List Int) (q3 : List (Ty.den wp)) : Option Bool × V × Ob × Nm := (some (decide (cn_uS c off k s ks o lf n1 n2 m n3 m3 dn lf3 d v q d3 q3)), .b true, [some [.sb o, .si .i64 lf, .bs true 0 0 n1, .bs true 1 0 n2, .bs true 2 0 0], some [.bs true 5 0 n3, .bs true 4 0 0, .sb dn, .si .i64 lf3]], [some (.live (.arr bty v)), some (.live (.arr bty v)), some (.live (.arr wp (qS q m))), some (.live (.arr bty d3)), some (.live (.arr wp q3)), some (.live (.arr bty v))])
noncomputable def ct_uS := Ct.by fp_uS fun ⟨(_, _, (c, off, k, s, ks, _), _), ((o, lf, n1, n2, m, _), (n3, m3, dn, lf3, _), _), (d, v, q, d3, q3, _)⟩ => cr_uS c off k s ks o lf n1 n2 m n3 m3 dn lf3 d v q d3 q3
abbrev sf_uS (c off k : Int) (s : ByteArray) (ks : List Int) (o : Bool) (lf : Int) (n1 n2 m : Nat) (n3 m3 : Nat) (dn : Bool) (lf3 : Int) (d v : List Int) (q : List (Ty.den wp)) (d3 : List Int) (q3 : List (Ty.den wp)) : Prop := SemF Try.prog Γ 19 (SP.vals fp_uS.sp ((), (), (c, off, k, s, ks, ()), ())) (OP.vals fp_uS.op ((o, lf, n1, n2, m, ()), (n3, m3, dn, lf3, ()), ())) (BP.vals fp_uS.bp (d, v, q, d3, q3, ())) (.b true) ([some [.sb o, .si .i64 lf, .bs true 0 0 n1, .bs true 1 0 n2, .bs true 2 0 0], some [.bs true 5 0 n3, .bs true 4 0 0, .sb dn, .si .i64 lf3]]) ([some (.live (.arr bty v)), some (.live (.arr bty v)), some (.live (.arr wp (qS q m))), some (.live (.arr bty d3)), some (.live (.arr wp q3)), some (.live (.arr bty v))])
noncomputable def ev_uS (C : Cfg) (lv : List Nat) (c off k : Int) (s : ByteArray) (ks : List Int) (o : Bool) (lf : Int) (n1 n2 m : Nat) (n3 m3 : Nat) (dn : Bool) (lf3 : Int) (d v : List Int) (q : List (Ty.den wp)) (d3 : List Int) (q3 : List (Ty.den wp)) := evV Try.prog Γ C lv 19 (SP.vals fp_uS.sp ((), (), (c, off, k, s, ks, ()), ())) (OP.vals fp_uS.op ((o, lf, n1, n2, m, ()), (n3, m3, dn, lf3, ()), ())) (BP.vals fp_uS.bp (d, v, q, d3, q3, ()))
theorem cr_uS_ok (c off k : Int) (s : ByteArray) (ks : List Int) (o : Bool) (lf : Int) (n1 n2 m : Nat) (n3 m3 : Nat) (dn : Bool) (lf3 : Int) (d v : List Int) (q : List (Ty.den wp)) (d3 : List Int) (q3 : List (Ty.den wp)) (h : (cr_uS c off k s ks o lf n1 n2 m n3 m3 dn lf3 d v q d3 q3).1.getD true = true) : cn_uS c off k s ks o lf n1 n2 m n3 m3 dn lf3 d v q d3 q3 := of_decide_eq_true h
theorem ct_uS_ok (H : ∀ (c off k : Int) (s : ByteArray) (ks : List Int) (o : Bool) (lf : Int) (n1 n2 m : Nat) (n3 m3 : Nat) (dn : Bool) (lf3 : Int) (d v : List Int) (q : List (Ty.den wp)) (d3 : List Int) (q3 : List (Ty.den wp)), cn_uS c off k s ks o lf n1 n2 m n3 m3 dn lf3 d v q d3 q3 → sf_uS c off k s ks o lf n1 n2 m n3 m3 dn lf3 d v q d3 q3) : ∀ args ob nm c v ob1 nm1, ct_uS args ob nm = some (c, v, ob1, nm1) → c.getD true = true → SemF Try.prog Γ 19 args ob nm v ob1 nm1 := Ct.by_ok fun ⟨(_, _, (c, off, k, s, ks, _), _), ((o, lf, n1, n2, m, _), (n3, m3, dn, lf3, _), _), (d, v, q, d3, q3, _)⟩ h => H c off k s ks o lf n1 n2 m n3 m3 dn lf3 d v q d3 q3 (cr_uS_ok c off k s ks o lf n1 n2 m n3 m3 dn lf3 d v q d3 q3 h)
theorem uS_go (c off k : Int) (s : ByteArray) (ks : List Int) (o : Bool) (lf : Int) (n1 n2 m : Nat) (n3 m3 : Nat) (dn : Bool) (lf3 : Int) (d v : List Int) (q : List (Ty.den wp)) (d3 : List Int) (q3 : List (Ty.den wp)) (h : cn_uS c off k s ks o lf n1 n2 m n3 m3 dn lf3 d v q d3 q3) : sf_uS c off k s ks o lf n1 n2 m n3 m3 dn lf3 d v q d3 q3 := by
  obtain ⟨hM, hc, hK, ho⟩ := h
  have g34 := hM.g34
  obtain ⟨rfl, rfl, rfl, rfl, rfl, rfl⟩ := hM.he
  have e := z19S c off k s ks dn lf3 n3 n3 m3 n3 m3 dn lf3 d3 v q d3 q3
  have c1 : cn_w23w dn lf3 n3 n3 m3 d3 v q := ⟨ho, hM.mq, hM.dl, hM.vl, rfl, hM.qo⟩
  have c2 : cn_w31w n3 m3 dn lf3 d3 q3 := ⟨ho, g34⟩
  rw [hc, hK, decide_eq_true c1, decide_eq_true c2, ← hM.ap] at e
  exact SemF.of_tree cfgSS_ok (lv := []) (e.trans rfl)
noncomputable def UF : CallT := fun f args ob nm => match Nat.beq f 19 with | true => ct_uF args ob nm | false => TA f args ob nm
theorem UF_ok : CtOk Try.prog Γ UF := CtOk.cons TA_ok 19 ct_uF (by decide) Try.f19 Try.func19 (by kernel_rfl) (by kernel_rfl) (ct_uF_ok uF_go)
noncomputable def UW : CallT := fun f args ob nm => match Nat.beq f 19 with | true => ct_uW args ob nm | false => TA f args ob nm
theorem UW_ok : CtOk Try.prog Γ UW := CtOk.cons TA_ok 19 ct_uW (by decide) Try.f19 Try.func19 (by kernel_rfl) (by kernel_rfl) (ct_uW_ok uW_go)
noncomputable def US : CallT := fun f args ob nm => match Nat.beq f 19 with | true => ct_uS args ob nm | false => TA f args ob nm
theorem US_ok : CtOk Try.prog Γ US := CtOk.cons TA_ok 19 ct_uS (by decide) Try.f19 Try.func19 (by kernel_rfl) (by kernel_rfl) (ct_uS_ok uS_go)
end D
end Go.Proofs.Ytnjjkobijjdnbaa

/- Package disk: DiskMatchesReference: its rounds. -/
set_option linter.unusedVariables false
set_option linter.unusedSimpArgs false
set_option maxRecDepth 100000
set_option maxHeartbeats 4000000
namespace Go.Proofs.Ytnjjkobijjdnbaa
open Go
namespace D
def om4 : FuncId → Bool := fun f => [14, 20, 19].any (Nat.beq f)
noncomputable def cfgMF : Cfg := { cfgP with om := callC UF, omd := om4 }
theorem cfgMF_ok : CfgOk Try.prog Γ cfgMF := { cfgP_ok with om := callC_calls UF_ok, fit := callC_fit UF_ok }
noncomputable def cfgMW : Cfg := { cfgP with om := callC UW, omd := om4 }
theorem cfgMW_ok : CfgOk Try.prog Γ cfgMW := { cfgP_ok with om := callC_calls UW_ok, fit := callC_fit UW_ok }
noncomputable def cfgMS : Cfg := { cfgP with om := callC US, omd := om4 }
theorem cfgMS_ok : CfgOk Try.prog Γ cfgMS := { cfgP_ok with om := callC_calls US_ok, fit := callC_fit US_ok }
abbrev yP (w : Ty.den yt) : Int × Int × Int × ByteArray × List Int × Unit := w
def yC (w : Ty.den yt) : Int := (yP w).1
def yO (w : Ty.den yt) : Int := (yP w).2.1
def yN (w : Ty.den yt) : Int := (yP w).2.2.1
def yS (w : Ty.den yt) : ByteArray := (yP w).2.2.2.1
def yK (w : Ty.den yt) : List Int := (yP w).2.2.2.2.1
def hp_mr : HP := { n := 90, lv := [0, 1, 5, 6, 8, 10], sp := [.ty ity, .ty (.slice yt), .cb true, .ptr 0 0, .ptr 1 0, .ty ity], op := [.cells [.ty .bool, .ty ity, .bz 0, .bz 1, .bz 2], .cells [.bz 3, .bz 4, .ty .bool, .ty ity]], bp := [.arr bty, .arr bty, .arr wp, .arr bty, .arr wp], bo := [(0, 4, wp), (1, 1, wp)] }
def lve_mr : Ex → List Nat
  | .normal => [0, 1, 5, 6, 8, 10]
  | .ret => [4]
  | .exit 0 => [5]
  | _ => []
theorem bd_mr : Try.f4.body = some (root 4) := by kernel_rfl
theorem le_mr : (loops (root 4))[0]? = some (lp 4 0) := by kernel_rfl
theorem li_mr : Lies (root 4) 1 (lp 4 0) := Lies.of_take (n := 0) (by kernel_rfl)
-- 
-- 
-- 
-- 
-- 
def st_mF (n : Int) (l : List (Ty.den yt)) (i : Int) (o : Bool) (lf : Int) (n1 n2 m : Nat) (n3 m3 : Nat) (dn : Bool) (lf3 : Int) (d v : List Int) (q : List (Ty.den wp)) (d3 : List Int) (q3 : List (Ty.den wp)) : St := hp_mr.st ⟨(n, l, (), (), (), i, ()), ((o, lf, n1, n2, m, ()), (n3, m3, dn, lf3, ()), ()), (d, v, q, d3, q3, ())⟩
noncomputable def rn_mF (n : Int) (l : List (Ty.den yt)) (i : Int) (o : Bool) (lf : Int) (n1 n2 m : Nat) (n3 m3 : Nat) (dn : Bool) (lf3 : Int) (d v : List Int) (q : List (Ty.den wp)) (d3 : List Int) (q3 : List (Ty.den wp)) := outa lve_mr (evCK Try.prog Γ (cfM Try.prog Γ cfgMF 30) (cfgMF.lo 4) [] 60 1 (lp 4 0) (st_mF n l i o lf n1 n2 m n3 m3 dn lf3 d v q d3 q3))
theorem rn_mF_eq (n : Int) (l : List (Ty.den yt)) (i : Int) (o : Bool) (lf : Int) (n1 n2 m : Nat) (n3 m3 : Nat) (dn : Bool) (lf3 : Int) (d v : List Int) (q : List (Ty.den wp)) (d3 : List Int) (q3 : List (Ty.den wp)) : (rn_mF n l i o lf n1 n2 m n3 m3 dn lf3 d v q d3 q3).run = (bif decide (i < (Nat.cast (l.length) : Int)) then (bif decide (i < (60 : Int)) then (bif decide ((0 : Int) ≤ i ∧ i < (Nat.cast (l.length) : Int)) then (bif decide (cn_uF (yC (l.getD i.toNat yt.dflt)) (yO (l.getD i.toNat yt.dflt)) (yN (l.getD i.toNat yt.dflt)) (yS (l.getD i.toNat yt.dflt)) (yK (l.getD i.toNat yt.dflt)) o lf n1 n2 m n3 m3 dn lf3 d v q d3 q3) then (bif (Nat.cast ((List.take (mF (yC (l.getD i.toNat yt.dflt)) m) (List.drop (0) (qF (yC (l.getD i.toNat yt.dflt)) q m))).length) : Int) != (Nat.cast ((mF (yC (l.getD i.toNat yt.dflt)) m3)) : Int) then (some (Ex.ret, [V.b false], [], [], (90 : Nat), (0 : Nat), (0 : Nat))) else (bif (Nat.cast ((List.take n1 (List.drop (0) (dF (yC (l.getD i.toNat yt.dflt)) (yN (l.getD i.toNat yt.dflt)) q m (yK (l.getD i.toNat yt.dflt)) d d))).length) : Int) != n then (some (Ex.ret, [V.b false], [], [], (90 : Nat), (0 : Nat), (0 : Nat))) else (bif decide (cn_w14 (0 : Int) n (oF (yC (l.getD i.toNat yt.dflt)) o (yN (l.getD i.toNat yt.dflt))) (lF (yC (l.getD i.toNat yt.dflt)) o (yN (l.getD i.toNat yt.dflt)) lf) n1 n2 (mF (yC (l.getD i.toNat yt.dflt)) m) (dF (yC (l.getD i.toNat yt.dflt)) (yN (l.getD i.toNat yt.dflt)) q m (yK (l.getD i.toNat yt.dflt)) d d) (dF (yC (l.getD i.toNat yt.dflt)) (yN (l.getD i.toNat yt.dflt)) q m (yK (l.getD i.toNat yt.dflt)) d v) (qF (yC (l.getD i.toNat yt.dflt)) q m)) then (bif decide (cn_w20 (0 : Int) n n3 (mF (yC (l.getD i.toNat yt.dflt)) m3) (oF (yC (l.getD i.toNat yt.dflt)) dn (yN (l.getD i.toNat yt.dflt))) (lF (yC (l.getD i.toNat yt.dflt)) dn (yN (l.getD i.toNat yt.dflt)) lf3) (dF (yC (l.getD i.toNat yt.dflt)) (yN (l.getD i.toNat yt.dflt)) q m (yK (l.getD i.toNat yt.dflt)) d d3) q3) then (bif !(rdS (oF (yC (l.getD i.toNat yt.dflt)) o (yN (l.getD i.toNat yt.dflt))) (0 : Int) n n1 (dF (yC (l.getD i.toNat yt.dflt)) (yN (l.getD i.toNat yt.dflt)) q m (yK (l.getD i.toNat yt.dflt)) d v)).toList == (rdS (oF (yC (l.getD i.toNat yt.dflt)) dn (yN (l.getD i.toNat yt.dflt))) (0 : Int) n n3 (apN q3 (mF (yC (l.getD i.toNat yt.dflt)) m3) (dF (yC (l.getD i.toNat yt.dflt)) (yN (l.getD i.toNat yt.dflt)) q m (yK (l.getD i.toNat yt.dflt)) d d3))).toList then (some (Ex.ret, [V.b false], [], [], (90 : Nat), (0 : Nat), (0 : Nat))) else (bif rdE (oF (yC (l.getD i.toNat yt.dflt)) o (yN (l.getD i.toNat yt.dflt))) (0 : Int) n n1 != rdE (oF (yC (l.getD i.toNat yt.dflt)) dn (yN (l.getD i.toNat yt.dflt))) (0 : Int) n n3 then (some (Ex.ret, [V.b false], [], [], (90 : Nat), (0 : Nat), (0 : Nat))) else (some (Ex.normal, [V.si IntKind.i64 n, V.slst Tag.ro yt l, V.b true, V.ptr (0 : Nat) (0 : Nat), V.ptr (1 : Nat) (0 : Nat), V.si IntKind.i64 (IntKind.i64.wrap (i + (1 : Int)))], [some [V.sb (oF (yC (l.getD i.toNat yt.dflt)) o (yN (l.getD i.toNat yt.dflt))), V.si IntKind.i64 (lF (yC (l.getD i.toNat yt.dflt)) o (yN (l.getD i.toNat yt.dflt)) lf), V.bs true (0 : Nat) (0 : Nat) n1, V.bs true (1 : Nat) (0 : Nat) n2, V.bs true (2 : Nat) (0 : Nat) (mF (yC (l.getD i.toNat yt.dflt)) m)], some [V.bs true (3 : Nat) (0 : Nat) n3, V.bs true (4 : Nat) (0 : Nat) (mF (yC (l.getD i.toNat yt.dflt)) m3), V.sb (oF (yC (l.getD i.toNat yt.dflt)) dn (yN (l.getD i.toNat yt.dflt))), V.si IntKind.i64 (lF (yC (l.getD i.toNat yt.dflt)) dn (yN (l.getD i.toNat yt.dflt)) lf3)]], [some (Bf.live (BC.arr bty (dF (yC (l.getD i.toNat yt.dflt)) (yN (l.getD i.toNat yt.dflt)) q m (yK (l.getD i.toNat yt.dflt)) d d))), some (Bf.live (BC.arr bty (dF (yC (l.getD i.toNat yt.dflt)) (yN (l.getD i.toNat yt.dflt)) q m (yK (l.getD i.toNat yt.dflt)) d v))), some (Bf.live (BC.arr wp (qF (yC (l.getD i.toNat yt.dflt)) q m))), some (Bf.live (BC.arr bty (dF (yC (l.getD i.toNat yt.dflt)) (yN (l.getD i.toNat yt.dflt)) q m (yK (l.getD i.toNat yt.dflt)) d d3))), some (Bf.live (BC.arr wp q3))], (90 : Nat), (0 : Nat), (0 : Nat))))) else none) else none))) else none) else none) else (some (Ex.exit (0 : Nat), [V.b true], [], [], (90 : Nat), (0 : Nat), (0 : Nat)))) else (some (Ex.exit (0 : Nat), [V.b true], [], [], (90 : Nat), (0 : Nat), (0 : Nat)))) := by kernel_rfl
theorem rn_mF_c (n : Int) (l : List (Ty.den yt)) (i : Int) (o : Bool) (lf : Int) (n1 n2 m : Nat) (n3 m3 : Nat) (dn : Bool) (lf3 : Int) (d v : List Int) (q : List (Ty.den wp)) (d3 : List Int) (q3 : List (Ty.den wp)) {e : Ex} {vs : List V} {ob : Ob} {nm : Nm} {n' kh kt : Nat} (h : (rn_mF n l i o lf n1 n2 m n3 m3 dn lf3 d v q d3 q3).run = some (e, vs, ob, nm, n', kh, kt)) : SemC Try.prog Γ (lp 4 0) (st_mF n l i o lf n1 n2 m n3 m3 dn lf3 d v q d3 q3) e.to (St.of n' (lve_mr e) vs ob nm kh kt) := SemC.of_evM cfgMF_ok Try.func4 bd_mr li_mr h
def st_mW (n : Int) (l : List (Ty.den yt)) (i : Int) (o : Bool) (lf : Int) (n1 n2 m : Nat) (n3 m3 : Nat) (dn : Bool) (lf3 : Int) (d v : List Int) (q : List (Ty.den wp)) (d3 : List Int) (q3 : List (Ty.den wp)) : St := hp_mr.st ⟨(n, l, (), (), (), i, ()), ((o, lf, n1, n2, m, ()), (n3, m3, dn, lf3, ()), ()), (d, v, q, d3, q3, ())⟩
noncomputable def rn_mW (n : Int) (l : List (Ty.den yt)) (i : Int) (o : Bool) (lf : Int) (n1 n2 m : Nat) (n3 m3 : Nat) (dn : Bool) (lf3 : Int) (d v : List Int) (q : List (Ty.den wp)) (d3 : List Int) (q3 : List (Ty.den wp)) := outa lve_mr (evCK Try.prog Γ (cfM Try.prog Γ cfgMW 30) (cfgMW.lo 4) [] 60 1 (lp 4 0) (st_mW n l i o lf n1 n2 m n3 m3 dn lf3 d v q d3 q3))
theorem rn_mW_eq (n : Int) (l : List (Ty.den yt)) (i : Int) (o : Bool) (lf : Int) (n1 n2 m : Nat) (n3 m3 : Nat) (dn : Bool) (lf3 : Int) (d v : List Int) (q : List (Ty.den wp)) (d3 : List Int) (q3 : List (Ty.den wp)) : (rn_mW n l i o lf n1 n2 m n3 m3 dn lf3 d v q d3 q3).run = (bif decide (i < (Nat.cast (l.length) : Int)) then (bif decide (i < (60 : Int)) then (bif decide ((0 : Int) ≤ i ∧ i < (Nat.cast (l.length) : Int)) then (bif decide (cn_uW (yC (l.getD i.toNat yt.dflt)) (yO (l.getD i.toNat yt.dflt)) (yN (l.getD i.toNat yt.dflt)) (yS (l.getD i.toNat yt.dflt)) (yK (l.getD i.toNat yt.dflt)) o lf n1 n2 m n3 m3 dn lf3 d v q d3 q3) then (bif (Nat.cast ((List.take (m + 1) (List.drop (0) (List.take m q ++ [mkP (yO (l.getD i.toNat yt.dflt)) (cs3 (yS (l.getD i.toNat yt.dflt)))]))).length) : Int) != (Nat.cast ((m3 + 1)) : Int) then (some (Ex.ret, [V.b false], [], [], (90 : Nat), (0 : Nat), (0 : Nat))) else (bif (Nat.cast ((List.take n1 (List.drop (0) d)).length) : Int) != n then (some (Ex.ret, [V.b false], [], [], (90 : Nat), (0 : Nat), (0 : Nat))) else (bif decide (cn_w14 (0 : Int) n (lf == (1 : Int)) (lft lf) n1 n2 (m + 1) d (cpy v (Int.toNat (yO (l.getD i.toNat yt.dflt))) n2 (bytesOf (cs3 (yS (l.getD i.toNat yt.dflt))))) (List.take m q ++ [mkP (yO (l.getD i.toNat yt.dflt)) (cs3 (yS (l.getD i.toNat yt.dflt)))])) then (bif decide (cn_w20 (0 : Int) n n3 (m3 + 1) (lf3 == (1 : Int)) (lft lf3) d3 (List.take m3 q3 ++ [mkP (yO (l.getD i.toNat yt.dflt)) (cs3 (yS (l.getD i.toNat yt.dflt)))])) then (bif !(rdS (lf == (1 : Int)) (0 : Int) n n1 (cpy v (Int.toNat (yO (l.getD i.toNat yt.dflt))) n2 (bytesOf (cs3 (yS (l.getD i.toNat yt.dflt)))))).toList == (rdS (lf3 == (1 : Int)) (0 : Int) n n3 (apN (List.take m3 q3 ++ [mkP (yO (l.getD i.toNat yt.dflt)) (cs3 (yS (l.getD i.toNat yt.dflt)))]) (m3 + 1) d3)).toList then (some (Ex.ret, [V.b false], [], [], (90 : Nat), (0 : Nat), (0 : Nat))) else (bif rdE (lf == (1 : Int)) (0 : Int) n n1 != rdE (lf3 == (1 : Int)) (0 : Int) n n3 then (some (Ex.ret, [V.b false], [], [], (90 : Nat), (0 : Nat), (0 : Nat))) else (some (Ex.normal, [V.si IntKind.i64 n, V.slst Tag.ro yt l, V.b true, V.ptr (0 : Nat) (0 : Nat), V.ptr (1 : Nat) (0 : Nat), V.si IntKind.i64 (IntKind.i64.wrap (i + (1 : Int)))], [some [V.sb (lf == (1 : Int)), V.si IntKind.i64 (lft lf), V.bs true (0 : Nat) (0 : Nat) n1, V.bs true (1 : Nat) (0 : Nat) n2, V.bs true (2 : Nat) (0 : Nat) (m + 1)], some [V.bs true (3 : Nat) (0 : Nat) n3, V.bs true (4 : Nat) (0 : Nat) (m3 + 1), V.sb (lf3 == (1 : Int)), V.si IntKind.i64 (lft lf3)]], [some (Bf.live (BC.arr bty d)), some (Bf.live (BC.arr bty (cpy v (Int.toNat (yO (l.getD i.toNat yt.dflt))) n2 (bytesOf (cs3 (yS (l.getD i.toNat yt.dflt))))))), some (Bf.live (BC.arr wp (List.take m q ++ [mkP (yO (l.getD i.toNat yt.dflt)) (cs3 (yS (l.getD i.toNat yt.dflt)))]))), some (Bf.live (BC.arr bty d3)), some (Bf.live (BC.arr wp (List.take m3 q3 ++ [mkP (yO (l.getD i.toNat yt.dflt)) (cs3 (yS (l.getD i.toNat yt.dflt)))])))], (90 : Nat), (0 : Nat), (0 : Nat))))) else none) else none))) else none) else none) else (some (Ex.exit (0 : Nat), [V.b true], [], [], (90 : Nat), (0 : Nat), (0 : Nat)))) else (some (Ex.exit (0 : Nat), [V.b true], [], [], (90 : Nat), (0 : Nat), (0 : Nat)))) := by kernel_rfl
theorem rn_mW_c (n : Int) (l : List (Ty.den yt)) (i : Int) (o : Bool) (lf : Int) (n1 n2 m : Nat) (n3 m3 : Nat) (dn : Bool) (lf3 : Int) (d v : List Int) (q : List (Ty.den wp)) (d3 : List Int) (q3 : List (Ty.den wp)) {e : Ex} {vs : List V} {ob : Ob} {nm : Nm} {n' kh kt : Nat} (h : (rn_mW n l i o lf n1 n2 m n3 m3 dn lf3 d v q d3 q3).run = some (e, vs, ob, nm, n', kh, kt)) : SemC Try.prog Γ (lp 4 0) (st_mW n l i o lf n1 n2 m n3 m3 dn lf3 d v q d3 q3) e.to (St.of n' (lve_mr e) vs ob nm kh kt) := SemC.of_evM cfgMW_ok Try.func4 bd_mr li_mr h
def st_mS (n : Int) (l : List (Ty.den yt)) (i : Int) (o : Bool) (lf : Int) (n1 n2 m : Nat) (n3 m3 : Nat) (dn : Bool) (lf3 : Int) (d v : List Int) (q : List (Ty.den wp)) (d3 : List Int) (q3 : List (Ty.den wp)) : St := hp_mr.st ⟨(n, l, (), (), (), i, ()), ((o, lf, n1, n2, m, ()), (n3, m3, dn, lf3, ()), ()), (d, v, q, d3, q3, ())⟩
noncomputable def rn_mS (n : Int) (l : List (Ty.den yt)) (i : Int) (o : Bool) (lf : Int) (n1 n2 m : Nat) (n3 m3 : Nat) (dn : Bool) (lf3 : Int) (d v : List Int) (q : List (Ty.den wp)) (d3 : List Int) (q3 : List (Ty.den wp)) := outa lve_mr (evCK Try.prog Γ (cfM Try.prog Γ cfgMS 30) (cfgMS.lo 4) [] 60 1 (lp 4 0) (st_mS n l i o lf n1 n2 m n3 m3 dn lf3 d v q d3 q3))
theorem rn_mS_eq (n : Int) (l : List (Ty.den yt)) (i : Int) (o : Bool) (lf : Int) (n1 n2 m : Nat) (n3 m3 : Nat) (dn : Bool) (lf3 : Int) (d v : List Int) (q : List (Ty.den wp)) (d3 : List Int) (q3 : List (Ty.den wp)) : (rn_mS n l i o lf n1 n2 m n3 m3 dn lf3 d v q d3 q3).run = (bif decide (i < (Nat.cast (l.length) : Int)) then (bif decide (i < (60 : Int)) then (bif decide ((0 : Int) ≤ i ∧ i < (Nat.cast (l.length) : Int)) then (bif decide (cn_uS (yC (l.getD i.toNat yt.dflt)) (yO (l.getD i.toNat yt.dflt)) (yN (l.getD i.toNat yt.dflt)) (yS (l.getD i.toNat yt.dflt)) (yK (l.getD i.toNat yt.dflt)) o lf n1 n2 m n3 m3 dn lf3 d v q d3 q3) then (bif (Nat.cast ((List.take n1 (List.drop (0) v)).length) : Int) != n then (some (Ex.ret, [V.b false], [], [], (90 : Nat), (0 : Nat), (0 : Nat))) else (bif decide (cn_w14 (0 : Int) n o lf n1 n2 (0) v v (qS q m)) then (bif decide (cn_w20 (0 : Int) n n3 (0) dn lf3 v q3) then (bif !(rdS o (0 : Int) n n1 v).toList == (rdS dn (0 : Int) n n3 (apN q3 (0) v)).toList then (some (Ex.ret, [V.b false], [], [], (90 : Nat), (0 : Nat), (0 : Nat))) else (bif rdE o (0 : Int) n n1 != rdE dn (0 : Int) n n3 then (some (Ex.ret, [V.b false], [], [], (90 : Nat), (0 : Nat), (0 : Nat))) else (some (Ex.normal, [V.si IntKind.i64 n, V.slst Tag.ro yt l, V.b true, V.ptr (0 : Nat) (0 : Nat), V.ptr (1 : Nat) (0 : Nat), V.si IntKind.i64 (IntKind.i64.wrap (i + (1 : Int)))], [some [V.sb o, V.si IntKind.i64 lf, V.bs true (0 : Nat) (0 : Nat) n1, V.bs true (1 : Nat) (0 : Nat) n2, V.bs true (2 : Nat) (0 : Nat) (0 : Nat)], some [V.bs true (3 : Nat) (0 : Nat) n3, V.bs true (4 : Nat) (0 : Nat) (0 : Nat), V.sb dn, V.si IntKind.i64 lf3]], [some (Bf.live (BC.arr bty v)), some (Bf.live (BC.arr bty v)), some (Bf.live (BC.arr wp (qS q m))), some (Bf.live (BC.arr bty v)), some (Bf.live (BC.arr wp q3))], (90 : Nat), (0 : Nat), (0 : Nat))))) else none) else none)) else none) else none) else (some (Ex.exit (0 : Nat), [V.b true], [], [], (90 : Nat), (0 : Nat), (0 : Nat)))) else (some (Ex.exit (0 : Nat), [V.b true], [], [], (90 : Nat), (0 : Nat), (0 : Nat)))) := by kernel_rfl
theorem rn_mS_c (n : Int) (l : List (Ty.den yt)) (i : Int) (o : Bool) (lf : Int) (n1 n2 m : Nat) (n3 m3 : Nat) (dn : Bool) (lf3 : Int) (d v : List Int) (q : List (Ty.den wp)) (d3 : List Int) (q3 : List (Ty.den wp)) {e : Ex} {vs : List V} {ob : Ob} {nm : Nm} {n' kh kt : Nat} (h : (rn_mS n l i o lf n1 n2 m n3 m3 dn lf3 d v q d3 q3).run = some (e, vs, ob, nm, n', kh, kt)) : SemC Try.prog Γ (lp 4 0) (st_mS n l i o lf n1 n2 m n3 m3 dn lf3 d v q d3 q3) e.to (St.of n' (lve_mr e) vs ob nm kh kt) := SemC.of_evM cfgMS_ok Try.func4 bd_mr li_mr h
end D
end Go.Proofs.Ytnjjkobijjdnbaa

/- Package disk: DiskMatchesReference: its loop. -/
set_option linter.unusedVariables false
set_option linter.unusedSimpArgs false
set_option maxRecDepth 100000
set_option maxHeartbeats 4000000
namespace Go.Proofs.Ytnjjkobijjdnbaa
open Go
namespace D
/-- What lies on both disks. -/
structure MS where
  i : Nat
  o : Bool
  lf : Int
  d : List Int
  v : List Int
  q : List (Ty.den wp)
  q3 : List (Ty.den wp)
  m : Nat
abbrev MS.pre (N : Nat) (a : MS) : Prop := preM a.o a.lf N N a.m N a.m a.o a.lf a.d a.v a.q a.d a.q3
def MS.nF (a : MS) (w : Ty.den yt) : MS := ⟨a.i + 1, oF (yC w) a.o (yN w), lF (yC w) a.o (yN w) a.lf, dF (yC w) (yN w) a.q a.m (yK w) a.d a.d, dF (yC w) (yN w) a.q a.m (yK w) a.d a.v, qF (yC w) a.q a.m, a.q3, mF (yC w) a.m⟩
def MS.nW (N : Nat) (a : MS) (w : Ty.den yt) : MS := ⟨a.i + 1, a.lf == 1, lft a.lf, a.d, cpy a.v (yO w).toNat N (bytesOf (cs3 (yS w))), List.take a.m a.q ++ [mkP (yO w) (cs3 (yS w))], List.take a.m a.q3 ++ [mkP (yO w) (cs3 (yS w))], a.m + 1⟩
def MS.nS (a : MS) : MS := ⟨a.i + 1, a.o, a.lf, a.v, a.v, qS a.q a.m, a.q3, 0⟩
theorem qS_off {q : List (Ty.den wp)} {m N : Nat} (h : ∀ w ∈ q, 0 ≤ offs w ∧ offs w ≤ (N : Int)) : ∀ w ∈ qS q m, 0 ≤ offs w ∧ offs w ≤ (N : Int) := fun w hw =>
  (qS_mem hw).elim (h w) (fun e => by subst e; exact ⟨Int.le_refl 0, by show (0 : Int) ≤ (N : Int); omega⟩)
theorem MS.pre.nF {N : Nat} {a : MS} (h : a.pre N) (w : Ty.den yt) (hk : inr (yN w) = true) : (a.nF w).pre N := by
  have hk := of_decide_eq_true hk
  have hf := h.fi
  rw [← h.dl] at hf
  have hcr := crd_crR (torn := yN w) (k := ck1 (yK w)) h.mq h.mq3 h.tk hf
  have e1 : (a.nF w).q3 = a.q3 := rfl
  rcases pick6 (yC w) with hK | hK | hK | hK | hK | hK
  iterate 4
    · have : a.nF w = ⟨a.i + 1, a.o, a.lf, a.d, a.v, a.q, a.q3, a.m⟩ := by unfold MS.nF oF lF dF qF mF; rw [hK]; rfl
      rw [this]; exact h
  · have : a.nF w = ⟨a.i + 1, ctO a.o (yN w), ctL a.o (yN w) a.lf, a.d, a.v, a.q, a.q3, a.m⟩ := by unfold MS.nF oF lF dF qF mF; rw [hK]; rfl
    rw [this]
    refine { h with he := ⟨rfl, rfl, rfl, rfl, rfl, rfl⟩, hlf := ?_ }
    show 0 ≤ ctL a.o (yN w) a.lf ∧ ctL a.o (yN w) a.lf ≤ _
    unfold ctL
    cases a.o with
    | true => exact h.hlf
    | false =>
      by_cases h0 : yN w < 0
      · rw [decide_eq_true h0]; exact h.hlf
      · rw [decide_eq_false h0]; exact ⟨by show 0 ≤ yN w; omega, by show yN w ≤ _; omega⟩
  · have : a.nF w = ⟨a.i + 1, false, 0, crd (yN w) a.q a.m (ck1 (yK w)) a.d, crd (yN w) a.q a.m (ck1 (yK w)) a.d, qS a.q a.m, a.q3, 0⟩ := by unfold MS.nF oF lF dF qF mF; rw [hK]; rfl
    rw [this]
    have hl := hcr.2.trans h.dl
    exact { he := ⟨rfl, rfl, rfl, rfl, rfl, rfl⟩, dl := hl, vl := hl, hn := h.hn, hm := Nat.zero_le _, mq := Nat.zero_le _, mq3 := Nat.zero_le _, tk := rfl, qo := qS_off h.qo, fi := fun w hw => (nomatch hw), ap := rfl, hlf := ⟨Int.le_refl 0, by show (0 : Int) ≤ _; decide⟩ }
theorem MS.pre.nS {N : Nat} {a : MS} (h : a.pre N) : (a.nS).pre N :=
  { he := ⟨rfl, rfl, rfl, rfl, rfl, rfl⟩, dl := h.vl, vl := h.vl, hn := h.hn, hm := Nat.zero_le _, mq := Nat.zero_le _, mq3 := Nat.zero_le _, tk := rfl, qo := qS_off h.qo, fi := fun w hw => (nomatch hw), ap := rfl, hlf := h.hlf }
theorem apN_congr {q q' : List (Ty.den wp)} {d : List Int} : ∀ {i : Nat}, (∀ r, r < i → q.getD r wp.dflt = q'.getD r wp.dflt) → apN q i d = apN q' i d
  | 0, _ => rfl
  | i + 1, h => by
    simp only [apN]
    rw [apN_congr (fun r hr => h r (by omega)), h i (by omega)]
theorem MS.pre.nW {N : Nat} {a : MS} (h : a.pre N) (w : Ty.den yt) (hf : fitB (yO w) (cs3 (yS w)).size N) (hm : a.m < 1000) : (a.nW N w).pre N := by
  obtain ⟨f1, f2, f3⟩ := hf
  have hfit := h.fi
  rw [← h.dl] at hfit
  have hal := apN_len h.mq3 hfit a.m (Nat.le_refl _)
  rw [← h.ap] at hal
  obtain ⟨g1, g2⟩ := take_app_get h.mq3 (mkP (yO w) (cs3 (yS w)))
  have el : ∀ l : List (Ty.den wp), a.m ≤ l.length → (List.take a.m l ++ [mkP (yO w) (cs3 (yS w))]).length = a.m + 1 := fun l hl => by simp; omega
  have et : ∀ l : List (Ty.den wp), a.m ≤ l.length → List.take (a.m + 1) (List.take a.m l ++ [mkP (yO w) (cs3 (yS w))]) = List.take a.m l ++ [mkP (yO w) (cs3 (yS w))] := fun l hl => List.take_of_length_le (by rw [el l hl]; exact Nat.le_refl _)
  have hlen : (cpy a.v (yO w).toNat N (bytesOf (cs3 (yS w)))).length = N := by rw [cpy_len (by have := h.vl; omega) (by omega), h.vl]
  refine { he := ⟨rfl, rfl, rfl, rfl, rfl, rfl⟩, dl := h.dl, vl := hlen, hn := h.hn, hm := by show a.m + 1 ≤ 1000; omega, mq := by show a.m + 1 ≤ (List.take a.m a.q ++ _).length; rw [el _ h.mq]; exact Nat.le_refl _, mq3 := by show a.m + 1 ≤ (List.take a.m a.q3 ++ _).length; rw [el _ h.mq3]; exact Nat.le_refl _, tk := ?_, qo := ?_, fi := ?_, ap := ?_, hlf := ?_ }
  · show List.take (a.m + 1) (List.take a.m a.q ++ _) = List.take (a.m + 1) (List.take a.m a.q3 ++ _)
    rw [et _ h.mq, et _ h.mq3, h.tk]
  · intro x hx
    have hx : x ∈ List.take a.m a.q ++ [mkP (yO w) (cs3 (yS w))] := hx
    rw [List.mem_append, List.mem_singleton] at hx
    rcases hx with hx | rfl
    · exact h.qo x (List.mem_of_mem_take hx)
    · exact ⟨f1, by show yO w ≤ (N : Int); omega⟩
  · intro x hx
    have hx : x ∈ List.take (a.m + 1) (List.take a.m a.q3 ++ [mkP (yO w) (cs3 (yS w))]) := hx
    rw [et _ h.mq3, List.mem_append, List.mem_singleton] at hx
    rcases hx with hx | rfl
    · exact h.fi x hx
    · exact ⟨f1, f3⟩
  · show cpy a.v (yO w).toNat N (bytesOf (cs3 (yS w))) = putN (apN (List.take a.m a.q3 ++ [mkP (yO w) (cs3 (yS w))]) a.m a.d) (offs ((List.take a.m a.q3 ++ [mkP (yO w) (cs3 (yS w))]).getD a.m wp.dflt)).toNat (pS' ((List.take a.m a.q3 ++ [mkP (yO w) (cs3 (yS w))]).getD a.m wp.dflt)) (pS' ((List.take a.m a.q3 ++ [mkP (yO w) (cs3 (yS w))]).getD a.m wp.dflt)).size
    rw [apN_congr (q' := a.q3) g1, g2, ← h.ap, cpy_putN (by omega) (by have := h.vl; omega)]
    rfl
  · show 0 ≤ lft a.lf ∧ lft a.lf ≤ _
    have := h.hlf
    unfold lft
    split <;> omega
abbrev emM (n : Int) (l : List (Ty.den yt)) (a : MS) : St := st_mF n l a.i a.o a.lf n.toNat n.toNat a.m n.toNat a.m a.o a.lf a.d a.v a.q a.d a.q3
/-- What the two disks answer is alike. -/
theorem tail_ok {N : Nat} {n : Int} {a : MS} (h : a.pre N) (hn : (N : Int) = n) : ((Nat.cast ((List.take a.m (List.drop (0) a.q)).length) : Int) != (Nat.cast a.m : Int)) = false ∧ ((Nat.cast ((List.take N (List.drop (0) a.d)).length) : Int) != n) = false ∧ cn_w14 0 n a.o a.lf N N a.m a.d a.v a.q ∧ cn_w20 0 n N a.m a.o a.lf a.d a.q3 ∧ apN a.q3 a.m a.d = a.v := by
  have h1 := h.mq
  have h2 := h.dl
  refine ⟨?_, ?_, ⟨h.dl, h.hn, rfl⟩, h.g34, h.ap.symm⟩
  · rw [List.drop_zero, List.length_take, Nat.min_eq_left h1]; simp
  · rw [List.drop_zero, List.length_take, h2, Nat.min_self, hn]; simp
theorem mr_loop (n : Int) (l : List (Ty.den yt)) (h1 : 1 ≤ n) (h2 : n ≤ 400) (hl : ∀ w ∈ l, inr (yC w) = true ∧ inr (yN w) = true) : ∀ a : MS, (a.i ≤ 60 ∧ a.i ≤ l.length ∧ a.m ≤ a.i ∧ a.pre n.toNat) →
    SemL Try.prog Γ (lp 4 0) (emM n l a) (Ex.exit 0).to (St.of 90 [5] [.b true] [] []) :=
  SemL.ind (P := Try.prog) (Γ := Γ) (b := lp 4 0) (fun a : MS => emM n l a) (fun a => l.length - a.i) (fun _ => (.exit 0, St.of 90 [5] [.b true] [] [])) (fun a => a.i ≤ 60 ∧ a.i ≤ l.length ∧ a.m ≤ a.i ∧ a.pre n.toNat) (fun a ⟨i1, i2, i3, h⟩ => by
    have hnn : ((n.toNat : Nat) : Int) = n := by omega
    by_cases hlt : a.i < l.length
    · by_cases h60 : a.i < 60
      · refine .inl ?_
        have hw1 : IntKind.i64.wrap ((a.i : Int) + 1) = ((a.i + 1 : Nat) : Int) := by rw [wrap_in (by omega) (by omega)]; rfl
        have hw : inr (yC (l.getD a.i yt.dflt)) = true ∧ inr (yN (l.getD a.i yt.dflt)) = true := by
          have : l.getD a.i yt.dflt = l[a.i] := by rw [List.getD_eq_getElem?_getD, List.getElem?_eq_getElem hlt, Option.getD_some]
          rw [this]; exact hl _ (List.getElem_mem _)
        have e0 : decide ((a.i : Int) < (l.length : Int)) = true := decide_eq_true (by omega)
        have e1 : decide ((a.i : Int) < 60) = true := decide_eq_true (by omega)
        have e2 : decide ((0 : Int) ≤ (a.i : Int) ∧ (a.i : Int) < (l.length : Int)) = true := decide_eq_true ⟨by omega, by omega⟩
        generalize hW : l.getD a.i yt.dflt = w at *
        by_cases kW : pickD (yC w) 6 ≤ 1 ∧ a.o = false ∧ fitB (yO w) (cs3 (yS w)).size n.toNat
        · have h' := h.nW w kW.2.2 (by omega)
          refine ⟨a.nW n.toNat w, ?_, ⟨by show a.i + 1 ≤ 60; omega, by show a.i + 1 ≤ l.length; omega, by show a.m + 1 ≤ a.i + 1; omega, h'⟩, by show l.length - (a.i + 1) < l.length - a.i; omega, rfl⟩
          obtain ⟨t1, t2, t3, t4, t5⟩ := tail_ok h' hnn
          have c1 : cn_uW (yC w) (yO w) (yN w) (yS w) (yK w) a.o a.lf n.toNat n.toNat a.m n.toNat a.m a.o a.lf a.d a.v a.q a.d a.q3 := ⟨h, hw.1, kW⟩
          refine rn_mW_c n l a.i a.o a.lf n.toNat n.toNat a.m n.toNat a.m a.o a.lf a.d a.v a.q a.d a.q3 (e := .normal) ?_
          have t1 : ((Nat.cast ((List.take (a.m + 1) (List.drop (0) (List.take a.m a.q ++ [mkP (yO w) (cs3 (yS w))]))).length) : Int) != (Nat.cast (a.m + 1) : Int)) = false := t1
          have t2 : ((Nat.cast ((List.take n.toNat (List.drop (0) a.d)).length) : Int) != n) = false := t2
          have t3 : cn_w14 0 n (a.lf == 1) (lft a.lf) n.toNat n.toNat (a.m + 1) a.d (cpy a.v (yO w).toNat n.toNat (bytesOf (cs3 (yS w)))) (List.take a.m a.q ++ [mkP (yO w) (cs3 (yS w))]) := t3
          have t4 : cn_w20 0 n n.toNat (a.m + 1) (a.lf == 1) (lft a.lf) a.d (List.take a.m a.q3 ++ [mkP (yO w) (cs3 (yS w))]) := t4
          have t5 : apN (List.take a.m a.q3 ++ [mkP (yO w) (cs3 (yS w))]) (a.m + 1) a.d = cpy a.v (yO w).toNat n.toNat (bytesOf (cs3 (yS w))) := t5
          rw [rn_mW_eq, hw1, Int.toNat_natCast, hW, e0, e1, e2, decide_eq_true c1, t1, t2, decide_eq_true t3, decide_eq_true t4, t5, rd_same, bne_self_eq_false]
          rfl
        · by_cases kS : pickD (yC w) 6 = 2 ∧ a.o = false
          · have h' := h.nS
            refine ⟨a.nS, ?_, ⟨by show a.i + 1 ≤ 60; omega, by show a.i + 1 ≤ l.length; omega, Nat.zero_le _, h'⟩, by show l.length - (a.i + 1) < l.length - a.i; omega, rfl⟩
            obtain ⟨t1, t2, t3, t4, t5⟩ := tail_ok h' hnn
            have c1 : cn_uS (yC w) (yO w) (yN w) (yS w) (yK w) a.o a.lf n.toNat n.toNat a.m n.toNat a.m a.o a.lf a.d a.v a.q a.d a.q3 := ⟨h, hw.1, kS⟩
            refine rn_mS_c n l a.i a.o a.lf n.toNat n.toNat a.m n.toNat a.m a.o a.lf a.d a.v a.q a.d a.q3 (e := .normal) ?_
            have t2 : ((Nat.cast ((List.take n.toNat (List.drop (0) a.v)).length) : Int) != n) = false := t2
            have t3 : cn_w14 0 n a.o a.lf n.toNat n.toNat 0 a.v a.v (qS a.q a.m) := t3
            have t4 : cn_w20 0 n n.toNat 0 a.o a.lf a.v a.q3 := t4
            have t5 : apN a.q3 0 a.v = a.v := t5
            rw [rn_mS_eq, hw1, Int.toNat_natCast, hW, e0, e1, e2, decide_eq_true c1, t2, decide_eq_true t3, decide_eq_true t4, t5, rd_same, bne_self_eq_false]
            rfl
          · have h' := h.nF w hw.2
            have hmF : mF (yC w) a.m ≤ a.m := by unfold mF; split <;> omega
            refine ⟨a.nF w, ?_, ⟨by show a.i + 1 ≤ 60; omega, by show a.i + 1 ≤ l.length; omega, by show mF (yC w) a.m ≤ a.i + 1; omega, h'⟩, by show l.length - (a.i + 1) < l.length - a.i; omega, rfl⟩
            obtain ⟨t1, t2, t3, t4, t5⟩ := tail_ok h' hnn
            have ho : ∀ b : Bool, ¬ b = false → b = true := fun b h => match b, h with | true, _ => rfl | false, h => absurd rfl h
            have c1 : cn_uF (yC w) (yO w) (yN w) (yS w) (yK w) a.o a.lf n.toNat n.toNat a.m n.toNat a.m a.o a.lf a.d a.v a.q a.d a.q3 := ⟨h, hw.1, fun hk => by
              by_cases hb : a.o = false
              · exact .inr (fun hf => kW ⟨hk, hb, hf⟩)
              · exact .inl (ho _ hb), fun hk => ho _ (fun hb => kS ⟨hk, hb⟩)⟩
            refine rn_mF_c n l a.i a.o a.lf n.toNat n.toNat a.m n.toNat a.m a.o a.lf a.d a.v a.q a.d a.q3 (e := .normal) ?_
            have t1 : ((Nat.cast ((List.take (mF (yC w) a.m) (List.drop (0) (qF (yC w) a.q a.m))).length) : Int) != (Nat.cast (mF (yC w) a.m) : Int)) = false := t1
            have t2 : ((Nat.cast ((List.take n.toNat (List.drop (0) (dF (yC w) (yN w) a.q a.m (yK w) a.d a.d))).length) : Int) != n) = false := t2
            have t3 : cn_w14 0 n (oF (yC w) a.o (yN w)) (lF (yC w) a.o (yN w) a.lf) n.toNat n.toNat (mF (yC w) a.m) (dF (yC w) (yN w) a.q a.m (yK w) a.d a.d) (dF (yC w) (yN w) a.q a.m (yK w) a.d a.v) (qF (yC w) a.q a.m) := t3
            have t4 : cn_w20 0 n n.toNat (mF (yC w) a.m) (oF (yC w) a.o (yN w)) (lF (yC w) a.o (yN w) a.lf) (dF (yC w) (yN w) a.q a.m (yK w) a.d a.d) a.q3 := t4
            have t5 : apN a.q3 (mF (yC w) a.m) (dF (yC w) (yN w) a.q a.m (yK w) a.d a.d) = dF (yC w) (yN w) a.q a.m (yK w) a.d a.v := t5
            rw [rn_mF_eq, hw1, Int.toNat_natCast, hW, e0, e1, e2, decide_eq_true c1, t1, t2, decide_eq_true t3, decide_eq_true t4, t5, rd_same, bne_self_eq_false]
            rfl
      · refine .inr ⟨by simp [Ex.to], rn_mF_c n l a.i a.o a.lf n.toNat n.toNat a.m n.toNat a.m a.o a.lf a.d a.v a.q a.d a.q3 (e := .exit 0) ?_⟩
        rw [rn_mF_eq, decide_eq_true (by omega), decide_eq_false (by omega)]
        rfl
    · refine .inr ⟨by simp [Ex.to], rn_mF_c n l a.i a.o a.lf n.toNat n.toNat a.m n.toNat a.m a.o a.lf a.d a.v a.q a.d a.q3 (e := .exit 0) ?_⟩
      rw [rn_mF_eq, decide_eq_false (by omega)]
      rfl)
abbrev pre_mr (n : Int) (l : List (Ty.den yt)) (i : Int) (o : Bool) (lf : Int) (n1 n2 m : Nat) (n3 m3 : Nat) (dn : Bool) (lf3 : Int) (d v : List Int) (q : List (Ty.den wp)) (d3 : List Int) (q3 : List (Ty.den wp)) : Prop := i = 0 ∧ o = false ∧ lf = 0 ∧ n1 = n.toNat ∧ n2 = n.toNat ∧ m = 0 ∧ n3 = n.toNat ∧ m3 = 0 ∧ dn = false ∧ lf3 = 0 ∧ 1 ≤ n ∧ n ≤ 400 ∧ d.length = n.toNat ∧ v = d ∧ d3 = d ∧ q.length = 0 ∧ q3.length = 0 ∧ ∀ w ∈ l, inr (yC w) = true ∧ inr (yN w) = true
def rs_mr (n : Int) (l : List (Ty.den yt)) (i : Int) (o : Bool) (lf : Int) (n1 n2 m : Nat) (n3 m3 : Nat) (dn : Bool) (lf3 : Int) (d v : List Int) (q : List (Ty.den wp)) (d3 : List Int) (q3 : List (Ty.den wp)) : Ex × St := (.exit 0, St.of 90 (lve_mr (.exit 0)) [.b true] [] [] hp_mr.kh hp_mr.kt)
def res_mr (n : Int) (l : List (Ty.den yt)) (i : Int) (o : Bool) (lf : Int) (n1 n2 m : Nat) (n3 m3 : Nat) (dn : Bool) (lf3 : Int) (d v : List Int) (q : List (Ty.den wp)) (d3 : List Int) (q3 : List (Ty.den wp)) : Tr (Ex × St) := .br (decide (pre_mr n l i o lf n1 n2 m n3 m3 dn lf3 d v q d3 q3)) (.leaf (some (.exit 0, St.of 90 (lve_mr (.exit 0)) [.b true] [] [] hp_mr.kh hp_mr.kt))) (.leaf none)
theorem res_mr_run (n : Int) (l : List (Ty.den yt)) (i : Int) (o : Bool) (lf : Int) (n1 n2 m : Nat) (n3 m3 : Nat) (dn : Bool) (lf3 : Int) (d v : List Int) (q : List (Ty.den wp)) (d3 : List Int) (q3 : List (Ty.den wp)) (h : pre_mr n l i o lf n1 n2 m n3 m3 dn lf3 d v q d3 q3) : (res_mr n l i o lf n1 n2 m n3 m3 dn lf3 d v q d3 q3).run = some (rs_mr n l i o lf n1 n2 m n3 m3 dn lf3 d v q d3 q3) := by
  unfold res_mr rs_mr
  rw [decide_eq_true h]
  exact rfl
theorem res_mr_no (n : Int) (l : List (Ty.den yt)) (i : Int) (o : Bool) (lf : Int) (n1 n2 m : Nat) (n3 m3 : Nat) (dn : Bool) (lf3 : Int) (d v : List Int) (q : List (Ty.den wp)) (d3 : List Int) (q3 : List (Ty.den wp)) (h : ¬ pre_mr n l i o lf n1 n2 m n3 m3 dn lf3 d v q d3 q3) : (res_mr n l i o lf n1 n2 m n3 m3 dn lf3 d v q d3 q3).run = none := Tr.run_no h
def ent_mr : LEnt := LEnt.by hp_mr fun ⟨(n, l, _, _, _, i, _), ((o, lf, n1, n2, m, _), (n3, m3, dn, lf3, _), _), (d, v, q, d3, q3, _)⟩ => res_mr n l i o lf n1 n2 m n3 m3 dn lf3 d v q d3 q3
theorem ent_mr_ok (hgo : ∀ (n : Int) (l : List (Ty.den yt)) (i : Int) (o : Bool) (lf : Int) (n1 n2 m : Nat) (n3 m3 : Nat) (dn : Bool) (lf3 : Int) (d v : List Int) (q : List (Ty.den wp)) (d3 : List Int) (q3 : List (Ty.den wp)), pre_mr n l i o lf n1 n2 m n3 m3 dn lf3 d v q d3 q3 → SemL Try.prog Γ (lp 4 0) (st_mF n l i o lf n1 n2 m n3 m3 dn lf3 d v q d3 q3) (rs_mr n l i o lf n1 n2 m n3 m3 dn lf3 d v q d3 q3).1.to (rs_mr n l i o lf n1 n2 m n3 m3 dn lf3 d v q d3 q3).2) : EntOk Try.prog Γ (lp 4 0) ent_mr := LEnt.by_ok fun ⟨(n, l, _, _, _, i, _), ((o, lf, n1, n2, m, _), (n3, m3, dn, lf3, _), _), (d, v, q, d3, q3, _)⟩ ex_ s_ h_ => by
  have h_ : (res_mr n l i o lf n1 n2 m n3 m3 dn lf3 d v q d3 q3).run = some (ex_, s_) := h_
  by_cases hp_ : pre_mr n l i o lf n1 n2 m n3 m3 dn lf3 d v q d3 q3
  · rw [res_mr_run n l i o lf n1 n2 m n3 m3 dn lf3 d v q d3 q3 hp_] at h_
    obtain ⟨rfl, rfl⟩ := Prod.mk.inj (Option.some.inj h_)
    exact hgo n l i o lf n1 n2 m n3 m3 dn lf3 d v q d3 q3 hp_
  · rw [res_mr_no n l i o lf n1 n2 m n3 m3 dn lf3 d v q d3 q3 hp_] at h_
    cases h_
theorem mr_go (n : Int) (l : List (Ty.den yt)) (i : Int) (o : Bool) (lf : Int) (n1 n2 m : Nat) (n3 m3 : Nat) (dn : Bool) (lf3 : Int) (d v : List Int) (q : List (Ty.den wp)) (d3 : List Int) (q3 : List (Ty.den wp)) (h : pre_mr n l i o lf n1 n2 m n3 m3 dn lf3 d v q d3 q3) :
    SemL Try.prog Γ (lp 4 0) (st_mF n l i o lf n1 n2 m n3 m3 dn lf3 d v q d3 q3) (rs_mr n l i o lf n1 n2 m n3 m3 dn lf3 d v q d3 q3).1.to (rs_mr n l i o lf n1 n2 m n3 m3 dn lf3 d v q d3 q3).2 := by
  obtain ⟨rfl, rfl, rfl, rfl, rfl, rfl, rfl, rfl, rfl, rfl, h1, h2, hd, rfl, rfl, hq, hq3, hl⟩ := h
  exact mr_loop n l h1 h2 hl ⟨0, false, 0, d3, d3, q, q3, 0⟩ ⟨Nat.zero_le _, Nat.zero_le _, Nat.le_refl _, { he := ⟨rfl, rfl, rfl, rfl, rfl, rfl⟩, dl := hd, vl := hd, hn := by omega, hm := Nat.zero_le _, mq := Nat.zero_le _, mq3 := Nat.zero_le _, tk := rfl, qo := fun w hw => by rw [List.length_eq_zero_iff.1 hq] at hw; exact (nomatch hw), fi := fun w hw => (nomatch hw), ap := rfl, hlf := ⟨Int.le_refl 0, by show (0 : Int) ≤ _; decide⟩ }⟩
def loM : LOrc := (LOrc.add (fun _ _ => none) 4 0 ent_mr)
theorem loM_ok : LOrcOk Try.prog Γ loM := (LOrcOk.add LOrcOk.none 4 0 Try.func4 bd_mr le_mr (ent_mr_ok mr_go))
noncomputable def cfgM4 : Cfg := { cfgMF with lo := loM, mem := fun f => (18 :: mems).any (Nat.beq f), wy := fun f a => match Nat.beq f 18 with | true => some [false, false, true] | false => wy7 f a }
theorem cfgM4_ok : CfgOk Try.prog Γ cfgM4 := { cfgMF_ok with lo := loM_ok }
-- 
-- 
theorem law4_run (n : Int) (l : List (Ty.den yt)) : run cfgM4 4 [.si .i64 n, .slst .ro yt l] = .ok (some (inr n && decide ((400 : Int) ≠ (0 : Int)) && (!decide (sz n 400 < (1 : Int)) && (some (!decide (sz n 400 > (4194304 : Int)) && (some (decide ((0 : Int) ≤ sz n 400 ∧ sz n 400 ≤ sz n 400 ∧ (1 : Int) * sz n 400 ≤ (281474976710656 : Int) ∧ sz n 400 ≤ (9223372036854775807 : Int)) && (some (decide ((0 : Int) ≤ sz n 400 ∧ sz n 400 ≤ sz n 400 ∧ (1 : Int) * sz n 400 ≤ (281474976710656 : Int) ∧ sz n 400 ≤ (9223372036854775807 : Int)) && true)).getD true)).getD true)).getD true && (!decide (sz n 400 < (1 : Int)) && (some (!decide (sz n 400 > (4194304 : Int)) && (some (decide ((0 : Int) ≤ sz n 400 ∧ sz n 400 ≤ sz n 400 ∧ (1 : Int) * sz n 400 ≤ (281474976710656 : Int) ∧ sz n 400 ≤ (9223372036854775807 : Int)) && true)).getD true)).getD true && decide (pre_mr (sz n 400) l (0 : Int) false (0 : Int) (sz n 400).toNat (sz n 400).toNat (0) (sz n 400).toNat (0) false (0 : Int) (rep (sz n 400)) (rep (sz n 400)) [] (rep (sz n 400)) []))))) (V.b true) := by kernel_rfl
end D
end Go.Proofs.Ytnjjkobijjdnbaa

/- Package disk: DiskMatchesReference, the law. -/
set_option linter.unusedVariables false
set_option linter.unusedSimpArgs false
set_option maxRecDepth 100000
set_option maxHeartbeats 4000000
namespace Go.Proofs.Ytnjjkobijjdnbaa
open Go
namespace D
theorem law4 (n : Int) (l : List (Ty.den yt)) (hn : inr n = true) (hl : ∀ w ∈ l, inr (yC w) = true ∧ inr (yN w) = true) : SemF Try.prog G0 4 [.si .i64 n, .slst .ro yt l] [] [] (.b true) [] [] := by
  obtain ⟨h1, h2⟩ := sz_in (n := n) (m := 400) (by decide) (by decide)
  have run := law4_run n l
  generalize hN : sz n 400 = N at *
  have p1 : pre_mr N l 0 false 0 N.toNat N.toNat 0 N.toNat 0 false 0 (rep N) (rep N) [] (rep N) [] := ⟨rfl, rfl, rfl, rfl, rfl, rfl, rfl, rfl, rfl, rfl, h1, h2, rep_len _, rfl, rfl, rfl, rfl, hl⟩
  refine of_run cfgM4_ok run ?_ rfl
  rw [hn, decide_eq_true p1, decide_eq_false (by omega : ¬ N < 1), decide_eq_false (by omega : ¬ N > 4194304), decide_eq_true (by omega : (0 : Int) ≤ N ∧ N ≤ N ∧ 1 * N ≤ 281474976710656 ∧ N ≤ 9223372036854775807)]
  rfl
end D
end Go.Proofs.Ytnjjkobijjdnbaa

