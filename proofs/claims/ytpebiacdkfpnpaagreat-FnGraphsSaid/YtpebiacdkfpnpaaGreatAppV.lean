/- append onto a slice of the call's own, nil or not: as a step of a list of operations, as a step of a region. Conditions: none. -/
import Derived.Test.YtpebiacdkfpnpaaGreatBase
namespace Go.Proofs.YtpebiacdkfpnpaaGreat
open Go.RowKit

/-- 'out = append(out, ..)' where out may be nil; what is appended is known by its cells. -/
theorem wpl_appV {P : Program} {t e : TypeId} {z : Value} {size bytes : Nat} (E : Elem P t e z size bytes) {w : World} {ops : Array Oper} {rest : List Oper} {o : Oper} {a : Act} {Q : Exit → Act → World → Prop} (hgd : o.guard = none) (s x : Operand)
    (ho : o.op = .call { callee := .builtin .append, args := #[s, x], argTypes := #[t, t] })
    {base : Nat} {v : Value} {n : Nat} {xs : List Value} (hs : a.eval s = v) (hown : w.ownsRow base e size v n xs)
    {ad : Addr} {m c : Nat} (hx : a.eval x = .slice (some ad) m c) {news : List Value} (hl : news.length = m * size) (hnews : ∀ j u, news[j]? = some u → w.cell? (ad.add j) = some u) (h1 : ∀ u ∈ news, u.oneCell' = true)
    (hm : 0 < m) (hn : n + m ≤ 1099511627776) (hbase : base ≤ w.heap.size)
    (h : ∀ g' cap' w', w'.ownsRow base e size (.slice (some ⟨g', 0, none⟩) (n + m) cap') (n + m) (xs ++ news) → w.grownBy w' v.ownBlock → (v.ownBlock = some g' ∨ g' = w.heap.size) → wpList P ops Q rest (a.put o.dst (.slice (some ⟨g', 0, none⟩) (n + m) cap')) w') :
    wpList P ops Q (o :: rest) a w := by
  obtain ⟨i, hi, hz, hsz, hb⟩ := info_parts E.info
  have hby : (n + m) * bytes ≤ 140737488355328 := by
    have h64 := E.small
    have : (n + m) * bytes ≤ 1099511627776 * 64 := Nat.mul_le_mul hn h64
    omega
  exact wpList_append_lies w hgd s x t ho base e i z size bytes E.under hi hz hsz hb E.cells E.pos v n xs hs hown ad m c news hx hl hnews h1 hm (by unfold maxLen; omega) hby hbase _ rfl fun g cap w' h2 h3 h4 _ => h g cap w' h2 h3 h4
theorem step_appV {P : Program} {t e : TypeId} {z : Value} {size bytes : Nat} (E : Elem P t e z size bytes) {w : World} {ops : Array Oper} {o : Oper} {a : Act} {K : Act → World → Prop} {Q : Exit → Act → World → Prop} {F : Prop} (hgd : o.guard = none) (s x : Operand)
    (ho : o.op = .call { callee := .builtin .append, args := #[s, x], argTypes := #[t, t] })
    {base : Nat} {v : Value} {n : Nat} {xs : List Value} (hs : a.eval s = v) (hown : w.ownsRow base e size v n xs)
    {ad : Addr} {m c : Nat} (hx : a.eval x = .slice (some ad) m c) {news : List Value} (hl : news.length = m * size) (hnews : ∀ j u, news[j]? = some u → w.cell? (ad.add j) = some u) (h1 : ∀ u ∈ news, u.oneCell' = true)
    (hm : 0 < m) (hn : n + m ≤ 1099511627776) (hbase : base ≤ w.heap.size)
    (h : ∀ g' cap' w', w'.ownsRow base e size (.slice (some ⟨g', 0, none⟩) (n + m) cap') (n + m) (xs ++ news) → w.grownBy w' v.ownBlock → (v.ownBlock = some g' ∨ g' = w.heap.size) → K (a.put o.dst (.slice (some ⟨g', 0, none⟩) (n + m) cap')) w') :
    if Region.wanted o (yielded ops a.tmps) = true then Oper.wp P o a w K Q else F := by
  obtain ⟨i, hi, hz, hsz, hb⟩ := info_parts E.info
  have hby : (n + m) * bytes ≤ 140737488355328 := by
    have h64 := E.small
    have : (n + m) * bytes ≤ 1099511627776 * 64 := Nat.mul_le_mul hn h64
    omega
  exact step_append_lies w hgd s x t ho base e i z size bytes E.under hi hz hsz hb E.cells E.pos v n xs hs hown ad m c news hx hl hnews h1 hm (by unfold maxLen; omega) hby hbase _ rfl fun g cap w' h2 h3 h4 _ => h g cap w' h2 h3 h4
end Go.Proofs.YtpebiacdkfpnpaaGreat
