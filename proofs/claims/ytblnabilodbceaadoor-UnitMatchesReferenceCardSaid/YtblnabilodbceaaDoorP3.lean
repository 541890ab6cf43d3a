/- UnitMatchesReference: the law's contract. -/
import Derived.Test.YtblnabilodbceaaDoorW4
set_option linter.unusedVariables false
set_option linter.unusedSimpArgs false
set_option maxRecDepth 100000
set_option maxHeartbeats 2000000
namespace Go.Proofs.YtblnabilodbceaaDoor
open Go
namespace U
theorem nf3 (a0 a1 a2 b0 b1 b2 x0 x1 x2 y0 y1 y2 r0 r1 z0 z1 to size num den : Int) : mergeT (evFK Tryd.prog Γ (cfD Tryd.prog Γ orc32 60 8) lo3' [125, 181, 212, 254] 60 3 [.agg [.si .i64 a0, .si .i64 a1, .si .i64 a2], .agg [.si .i64 b0, .si .i64 b1, .si .i64 b2], .agg [.si .i64 x0, .si .i64 x1, .si .i64 x2], .agg [.si .i64 y0, .si .i64 y1, .si .i64 y2], .agg [.si .i64 r0, .si .i64 r1], .agg [.si .i64 z0, .si .i64 z1], .si .i64 to, .si .i64 size, .si .i64 num, .si .i64 den] [] []) = .ok (some (Bool.false || inr x0 && (inr x1 && inr x2) && (inr y0 && inr y1 && inr y2 && inr z0 && inr z1 && inr to && inr size && inr num && inr den))) (.sb true) := by kernel_rfl
theorem law3 (a0 a1 a2 b0 b1 b2 x0 x1 x2 y0 y1 y2 r0 r1 z0 z1 to size num den : Int) (h0 : inr a0 = true) (h1 : inr a1 = true) (h2 : inr a2 = true) (h3 : inr b0 = true) (h4 : inr b1 = true) (h5 : inr b2 = true) (h6 : inr x0 = true) (h7 : inr x1 = true) (h8 : inr x2 = true) (h9 : inr y0 = true) (h10 : inr y1 = true) (h11 : inr y2 = true) (h12 : inr r0 = true) (h13 : inr r1 = true) (h14 : inr z0 = true) (h15 : inr z1 = true) (h16 : inr to = true) (h17 : inr size = true) (h18 : inr num = true) (h19 : inr den = true) : SemF Tryd.prog Γ 3 [.agg [.si .i64 a0, .si .i64 a1, .si .i64 a2], .agg [.si .i64 b0, .si .i64 b1, .si .i64 b2], .agg [.si .i64 x0, .si .i64 x1, .si .i64 x2], .agg [.si .i64 y0, .si .i64 y1, .si .i64 y2], .agg [.si .i64 r0, .si .i64 r1], .agg [.si .i64 z0, .si .i64 z1], .si .i64 to, .si .i64 size, .si .i64 num, .si .i64 den] [] [] (.sb true) [] [] :=
  SemF.of_evK o32 mixed lo3'_ok (nf3 a0 a1 a2 b0 b1 b2 x0 x1 x2 y0 y1 y2 r0 r1 z0 z1 to size num den) (by simp [h0, h1, h2, h3, h4, h5, h6, h7, h8, h9, h10, h11, h12, h13, h14, h15, h16, h17, h18, h19]) rfl
end U
end Go.Proofs.YtblnabilodbceaaDoor
