/- What a row of Go data gives at one place. -/
import Derived.Test.YtkcobaimcfggjaaGreatDoorBase
namespace Go.Proofs.YtkcobaimcfggjaaGreatDoor
open Go.RowKit

theorem at_Int {xs : List Int} {A : Option Addr} {w wr : World} {k : Nat} (hR : Row tInt w (Old w) A xs) (hb : Below w.heap.size w wr) (hk : k < xs.length) :
    ∃ b off, A = some ⟨b, off, none⟩ ∧ Old w b ∧ wr.cell? ⟨b, off + k, none⟩ = some (.int .i64 xs[k]) := by
  obtain ⟨b, off, rfl, hbS, hc⟩ := hR (by omega)
  obtain ⟨cs, hr, hcs⟩ := hc k hk
  obtain rfl := hr
  exact ⟨b, off, rfl, hbS, by simpa [tInt, flat] using (hb.cell (p := ⟨b, off + k * tInt.size + 0, none⟩) hbS).trans (hcs 0 _ rfl)⟩
theorem at_Span {xs : List Span} {A : Option Addr} {w wr : World} {k : Nat} (hR : Row tSpan w (Old w) A xs) (hb : Below w.heap.size w wr) (hk : k < xs.length) :
    ∃ b off, A = some ⟨b, off, none⟩ ∧ Old w b ∧ wr.cell? ⟨b, off + k * 2, none⟩ = some (.int .i64 xs[k].From) ∧ wr.cell? ⟨b, off + k * 2 + 1, none⟩ = some (.int .i64 xs[k].To) := by
  obtain ⟨b, off, rfl, hbS, hc⟩ := hR (by omega)
  obtain ⟨cs, hr, hcs⟩ := hc k hk
  obtain rfl := hr
  exact ⟨b, off, rfl, hbS, by simpa [tSpan, flat] using (hb.cell (p := ⟨b, off + k * tSpan.size + 0, none⟩) hbS).trans (hcs 0 _ rfl), by simpa [tSpan, flat] using (hb.cell (p := ⟨b, off + k * tSpan.size + 1, none⟩) hbS).trans (hcs 1 _ rfl)⟩
theorem at_Op {xs : List Op} {A : Option Addr} {w wr : World} {k : Nat} (hR : Row tOp w (Old w) A xs) (hb : Below w.heap.size w wr) (hk : k < xs.length) :
    ∃ b off, A = some ⟨b, off, none⟩ ∧ Old w b ∧ wr.cell? ⟨b, off + k * 3, none⟩ = some (.int .i64 xs[k].Kind) ∧ wr.cell? ⟨b, off + k * 3 + 1, none⟩ = some (.int .i64 xs[k].Key) ∧ wr.cell? ⟨b, off + k * 3 + 2, none⟩ = some (.int .i64 xs[k].Value) := by
  obtain ⟨b, off, rfl, hbS, hc⟩ := hR (by omega)
  obtain ⟨cs, hr, hcs⟩ := hc k hk
  obtain rfl := hr
  exact ⟨b, off, rfl, hbS, by simpa [tOp, flat] using (hb.cell (p := ⟨b, off + k * tOp.size + 0, none⟩) hbS).trans (hcs 0 _ rfl), by simpa [tOp, flat] using (hb.cell (p := ⟨b, off + k * tOp.size + 1, none⟩) hbS).trans (hcs 1 _ rfl), by simpa [tOp, flat] using (hb.cell (p := ⟨b, off + k * tOp.size + 2, none⟩) hbS).trans (hcs 2 _ rfl)⟩
theorem at_Edge {xs : List Edge} {A : Option Addr} {w wr : World} {k : Nat} (hR : Row tEdge w (Old w) A xs) (hb : Below w.heap.size w wr) (hk : k < xs.length) :
    ∃ b off, A = some ⟨b, off, none⟩ ∧ Old w b ∧ wr.cell? ⟨b, off + k * 3, none⟩ = some (.int .i64 xs[k].From) ∧ wr.cell? ⟨b, off + k * 3 + 1, none⟩ = some (.int .i64 xs[k].To) ∧ wr.cell? ⟨b, off + k * 3 + 2, none⟩ = some (.int .i64 xs[k].Kind) := by
  obtain ⟨b, off, rfl, hbS, hc⟩ := hR (by omega)
  obtain ⟨cs, hr, hcs⟩ := hc k hk
  obtain rfl := hr
  exact ⟨b, off, rfl, hbS, by simpa [tEdge, flat] using (hb.cell (p := ⟨b, off + k * tEdge.size + 0, none⟩) hbS).trans (hcs 0 _ rfl), by simpa [tEdge, flat] using (hb.cell (p := ⟨b, off + k * tEdge.size + 1, none⟩) hbS).trans (hcs 1 _ rfl), by simpa [tEdge, flat] using (hb.cell (p := ⟨b, off + k * tEdge.size + 2, none⟩) hbS).trans (hcs 2 _ rfl)⟩
theorem at_Call {xs : List Call} {A : Option Addr} {w wr : World} {k : Nat} (hR : Row tCall w (Old w) A xs) (hb : Below w.heap.size w wr) (hk : k < xs.length) :
    ∃ b off, A = some ⟨b, off, none⟩ ∧ Old w b ∧ wr.cell? ⟨b, off + k * 4, none⟩ = some (.int .i64 xs[k].Kind) ∧ wr.cell? ⟨b, off + k * 4 + 1, none⟩ = some (.int .i64 xs[k].Value) ∧ wr.cell? ⟨b, off + k * 4 + 2, none⟩ = some (.int .i64 xs[k].When.From) ∧ wr.cell? ⟨b, off + k * 4 + 3, none⟩ = some (.int .i64 xs[k].When.To) := by
  obtain ⟨b, off, rfl, hbS, hc⟩ := hR (by omega)
  obtain ⟨cs, hr, hcs⟩ := hc k hk
  obtain rfl := hr
  exact ⟨b, off, rfl, hbS, by simpa [tCall, flat] using (hb.cell (p := ⟨b, off + k * tCall.size + 0, none⟩) hbS).trans (hcs 0 _ rfl), by simpa [tCall, flat] using (hb.cell (p := ⟨b, off + k * tCall.size + 1, none⟩) hbS).trans (hcs 1 _ rfl), by simpa [tCall, flat] using (hb.cell (p := ⟨b, off + k * tCall.size + 2, none⟩) hbS).trans (hcs 2 _ rfl), by simpa [tCall, flat] using (hb.cell (p := ⟨b, off + k * tCall.size + 3, none⟩) hbS).trans (hcs 3 _ rfl)⟩
theorem at_IntS {xs : List (List Int)} {A : Option Addr} {w wr : World} {k : Nat} (hR : Row (tSlice tInt) w (Old w) A xs) (hb : Below w.heap.size w wr) (hk : k < xs.length) :
    ∃ b off A2 c2, A = some ⟨b, off, none⟩ ∧ Old w b ∧ wr.cell? ⟨b, off + k, none⟩ = some (.slice A2 xs[k].length c2) ∧ xs[k].length ≤ c2 ∧ c2 ≤ maxLen ∧ Row tInt wr (Old wr) A2 xs[k] := by
  obtain ⟨b, off, rfl, hbS, hc⟩ := hR (by omega)
  obtain ⟨cs, hr, hcs⟩ := hc k hk
  obtain ⟨v, rfl, A2, c2, rfl, h1, h2, h3⟩ := hr
  exact ⟨b, off, A2, c2, rfl, hbS, by simpa [tSlice] using (hb.cell (p := ⟨b, off + k * (tSlice tInt).size + 0, none⟩) hbS).trans (hcs 0 _ rfl), h1, h2, h3.old hb⟩
theorem at_Draft {xs : List Draft} {A : Option Addr} {w wr : World} {k : Nat} (hR : Row tDraft w (Old w) A xs) (hb : Below w.heap.size w wr) (hk : k < xs.length) :
    ∃ b off A2 c2, A = some ⟨b, off, none⟩ ∧ Old w b ∧ wr.cell? ⟨b, off + k * 2, none⟩ = some (.int .i64 xs[k].Session) ∧ wr.cell? ⟨b, off + k * 2 + 1, none⟩ = some (.slice A2 xs[k].Steps.length c2) ∧ xs[k].Steps.length ≤ c2 ∧ c2 ≤ maxLen ∧ Row tOp wr (Old wr) A2 xs[k].Steps := by
  obtain ⟨b, off, rfl, hbS, hc⟩ := hR (by omega)
  obtain ⟨cs, hr, hcs⟩ := hc k hk
  obtain ⟨v, rfl, A2, c2, rfl, h1, h2, h3⟩ := hr
  exact ⟨b, off, A2, c2, rfl, hbS, by simpa [tDraft] using (hb.cell (p := ⟨b, off + k * tDraft.size + 0, none⟩) hbS).trans (hcs 0 _ rfl), by simpa [tDraft] using (hb.cell (p := ⟨b, off + k * tDraft.size + 1, none⟩) hbS).trans (hcs 1 _ rfl), h1, h2, h3.old hb⟩
theorem at_Txn {xs : List Txn} {A : Option Addr} {w wr : World} {k : Nat} (hR : Row tTxn w (Old w) A xs) (hb : Below w.heap.size w wr) (hk : k < xs.length) :
    ∃ b off A2 c2, A = some ⟨b, off, none⟩ ∧ Old w b ∧ wr.cell? ⟨b, off + k * 3, none⟩ = some (.int .i64 xs[k].Session) ∧ wr.cell? ⟨b, off + k * 3 + 1, none⟩ = some (.slice A2 xs[k].Ops.length c2) ∧ wr.cell? ⟨b, off + k * 3 + 2, none⟩ = some (.bool xs[k].Done) ∧ xs[k].Ops.length ≤ c2 ∧ c2 ≤ maxLen ∧ Row tOp wr (Old wr) A2 xs[k].Ops := by
  obtain ⟨b, off, rfl, hbS, hc⟩ := hR (by omega)
  obtain ⟨cs, hr, hcs⟩ := hc k hk
  obtain ⟨v, rfl, A2, c2, rfl, h1, h2, h3⟩ := hr
  exact ⟨b, off, A2, c2, rfl, hbS, by simpa [tTxn] using (hb.cell (p := ⟨b, off + k * tTxn.size + 0, none⟩) hbS).trans (hcs 0 _ rfl), by simpa [tTxn] using (hb.cell (p := ⟨b, off + k * tTxn.size + 1, none⟩) hbS).trans (hcs 1 _ rfl), by simpa [tTxn] using (hb.cell (p := ⟨b, off + k * tTxn.size + 2, none⟩) hbS).trans (hcs 2 _ rfl), h1, h2, h3.old hb⟩
end Go.Proofs.YtkcobaimcfggjaaGreatDoor
