/- append to a row of the call's own, at a step of a region that draws: generic over the program. -/
import Derived.Test.YtjedmiegcbdedaaLib
import Derived.Deep.RegionHeld3
import Derived.Deep.RegionLaw
namespace Go.Proofs.Ytjedmiegcbdedaa
open Go.RowKit
section
variable {P : Program} {t e : TypeId} (ht : P.underlying t = some (.slice e))
  (he : (P.info? e).map (fun i => (i.zero, i.size, i.bytes)) = some (some (.int .i64 0), 1, 8))
include ht he
theorem step_app_own (B : Nat) {w : World} {ops : Array Oper} {o : Oper} {ac : Act} {K : Act → World → Prop} {Q : Exit → Act → World → Prop} {E : Prop} {a a' : Option Addr} {n c m c' : Nat} {l l' : List Int}
    (s x : Operand) (hg : o.guard = none) (ho : o.op = .call { callee := .builtin .append, args := #[s, x], argTypes := #[t, t] })
    (hs : ac.eval s = .slice a n c) (hx : ac.eval x = .slice a' m c') (h : OwnL w e B a n c l) (h' : IsL w a' m c' l') (hB : B ≤ w.heap.size) (hsmall : n + m ≤ 17592186044416)
    (hK : ∀ a2 c2 w', OwnL w' e B a2 (n + m) c2 (l ++ l') → w.grownBy w' (Value.slice a n c).ownBlock → Below B w w' → Via w a a2 → K (ac.put o.dst (.slice a2 (n + m) c2)) w') :
    if Region.wanted o (yielded ops ac.tmps) = true then Oper.wp P o ac w K Q else E := by
  have hw : Region.wanted o (yielded ops ac.tmps) = true := by simp [Region.wanted, hg]
  rw [if_pos hw]
  obtain ⟨a2, c2, w', hr, h2, h3, h4⟩ := run_app_own ht he w B o.type a a' n c m c' l l' h h' hB hsmall
  unfold Oper.wp
  simp [execOp, ho, resolve, invoke, builtin, hs, hx, hr, Result.andThen]
  exact hK a2 c2 w' h2 h3 ((Below.refl _ _).grown h3 hB (fun k hk => (World.ownsRow.lt h k hk).1)) h4
theorem step_app_full {w : World} {ops : Array Oper} {o : Oper} {ac : Act} {K : Act → World → Prop} {Q : Exit → Act → World → Prop} {E : Prop} {a a' : Option Addr} {n m c' : Nat} {l l' : List Int}
    (s x : Operand) (hg : o.guard = none) (ho : o.op = .call { callee := .builtin .append, args := #[s, x], argTypes := #[t, t] })
    (hs : ac.eval s = .slice a n n) (hx : ac.eval x = .slice a' m c') (h : IsL w a n n l) (h' : IsL w a' m c' l') (hsmall : n + m ≤ 17592186044416)
    (hK : ∀ a2 c2 w', IsL w' a2 (n + m) c2 (l ++ l') → Below w.heap.size w w' → Via w a a2 → K (ac.put o.dst (.slice a2 (n + m) c2)) w') :
    if Region.wanted o (yielded ops ac.tmps) = true then Oper.wp P o ac w K Q else E := by
  have hw : Region.wanted o (yielded ops ac.tmps) = true := by simp [Region.wanted, hg]
  rw [if_pos hw]
  obtain ⟨a2, c2, w', hr, h2, h3, h4⟩ := run_app_full ht he w o.type a a' n m c' l l' h h' hsmall
  unfold Oper.wp
  simp [execOp, ho, resolve, invoke, builtin, hs, hx, hr, Result.andThen]
  exact hK a2 c2 w' h2 h3 h4
end
end Go.Proofs.Ytjedmiegcbdedaa
