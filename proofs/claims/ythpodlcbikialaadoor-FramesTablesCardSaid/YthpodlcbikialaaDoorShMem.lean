import Derived.Test.YthpodlcbikialaaDoorShNum
import Derived.Deep.OwnRows
namespace Go.Sh
/-! ## make, buildSlice, append -/
theorem Has.made (w : World) (cells : Array Value) (t : TypeId) : Has (w.alloc (.cells cells t)) w.heap.size cells.toList := ⟨t, by show (w.heap.push _)[w.heap.size]? = _; simp⟩
theorem Fr.made (w : World) (o : Obj) : Fr (fun _ => False) w (w.alloc o) := ⟨rfl, rfl, rfl, by simp, fun b hb _ => by show (w.heap.push _)[b]? = _; rw [Array.getElem?_push, if_neg (by omega)]⟩
theorem madeCells_one (z : Value) (n : Nat) : (madeCells #[z] n).toList = List.replicate n z := by
  unfold madeCells
  apply List.ext_getElem (by simp)
  intro j h1 h2
  simp [Nat.mod_one]
/-- make([]T, n), T of one cell -/
theorem RunV.make {P : Program} (t e : TypeId) (z : Value) (bytes n : Nat) {w : World} {K : Value → World → Prop} (ht : P.underlying t = some (.slice e)) (hi : (P.info? e).map (fun i => (i.zero, i.size, i.bytes)) = some (some z, 1, bytes)) (hz : z.cells = #[z])
    (hb : bytes * n ≤ 281474976710656) (hn : n ≤ 9223372036854775807)
    (k : ∀ w', Has w' w.heap.size (List.replicate n z) → Fr (fun _ => False) w w' → w'.heap.size = w.heap.size + 1 → K (.slice (some ⟨w.heap.size, 0, none⟩) n n) w') :
    RunV P (Instr.makeSlice t (.int .i64 n) (.int .i64 n)) w K := by
  refine ⟨_, _, run_make_row' t e z bytes ht hi hz .i64 .i64 n hb hn w, k _ ?_ (Fr.made w _) (by simp)⟩
  have := Has.made w (madeCells #[z] n) e
  rwa [madeCells_one] at this

theorem Fr.of_grown {w w' : World} {row : Option Nat} (h : w.grownBy w' row) : Fr (fun x => some x = row) w w' := ⟨h.os, h.output, h.tape, h.size, fun b hb hn => h.block b hb hn⟩
/-- what is closed about an element type -/
structure ElemT (P : Program) (t e : TypeId) (z : Value) (size bytes : Nat) : Prop where
  und : P.underlying t = some (.slice e)
  info : (P.info? e).map (fun i => (i.zero, i.size, i.bytes)) = some (some z, size, bytes)
  zs : z.cells.size = size
  pos : 0 < size
/-- append(v, x...): v is owned, x lies at an address; what comes is owned, in v's own block or in a new one -/
theorem RunV.append {P : Program} {t e ty : TypeId} {z : Value} {size bytes : Nat} (E : ElemT P t e z size bytes) {w : World} {K : Value → World → Prop}
    {v : Value} {n : Nat} {xs : List Value} (hown : w.ownsRow 0 e size v n xs)
    {b o m c : Nat} {l news : List Value} (hx : Has w b l) (hnews : ∀ j u, news[j]? = some u → l[o + j]? = some u) (hl : news.length = m * size) (h1 : ∀ u ∈ news, u.oneCell' = true)
    (h63 : n + m ≤ maxLen) (hbytes : (n + m) * bytes ≤ 140737488355328)
    (k : ∀ v' w', w'.ownsRow 0 e size v' (n + m) (xs ++ news) → Fr (fun x => some x = v.ownBlock) w w' → (v'.ownBlock = v.ownBlock ∨ v'.ownBlock = some w.heap.size) → (0 < n + m → ∃ g cap, v' = .slice (some ⟨g, 0, none⟩) (n + m) cap) → K v' w') :
    RunV P (Builtin.append_ #[t, t] ty #[v, .slice (some ⟨b, o, none⟩) m c]) w K := by
  have hi := E.info
  cases hinf : P.info? e with
  | none => rw [hinf] at hi; cases hi
  | some i =>
    rw [hinf] at hi
    simp only [Option.map_some, Option.some.injEq, Prod.mk.injEq] at hi
    obtain ⟨hz, hs, hb⟩ := hi
    have hcell : ∀ j u, news[j]? = some u → w.cell? ((⟨b, o, none⟩ : Addr).add j) = some u := by
      intro j u hj
      rw [← at0_add, at0_mk, hx.cell]; exact hnews j u hj
    obtain ⟨v', w', hrun, how, hgr, hiff⟩ := run_append_own w 0 t ty e i z size bytes E.und hinf hz hs hb E.zs E.pos v n xs hown ⟨b, o, none⟩ m c news hl hcell h1 h63 hbytes (Nat.zero_le _)
    refine ⟨v', w', hrun, k v' w' how (Fr.of_grown hgr) ?_ ?_⟩
    · subst hs hb
      simp only [maxLen] at h63
      rcases hown.2 with ⟨rfl, rfl⟩ | ⟨g, cap, cur, rfl, hbg, hg, hnc, hcm, hcs, htake⟩
      · by_cases hm : m = 0
        · have := hiff.2 ⟨rfl, hm⟩; subst this; exact .inl rfl
        · have hr := run_append_nil (P := P) w t ty e i z E.und hinf hz ⟨b, o, none⟩ m c news hl hcell (by omega) (by omega) (by have hb := hbytes; simp only [Nat.zero_add] at hb; omega)
          rw [hrun] at hr
          injection hr with h1 h2
          subst h1; exact .inr rfl
      · by_cases hroom : n + m ≤ cap
        · have hfit : n * i.size + news.length ≤ cur.size := by rw [hl, hcs, ← Nat.add_mul]; exact Nat.mul_le_mul_right _ hroom
          have hr := run_append_room (P := P) (ty := ty) w t e i E.und hinf g n cap cur hg ⟨b, o, none⟩ m c news hl hcell h1 hroom hfit
          rw [hrun] at hr
          injection hr with h1 h2
          subst h1; exact .inl rfl
        · have holds : ∀ j u, xs[j]? = some u → w.cell? ((⟨g, 0, none⟩ : Addr).add j) = some u := hown.cells (g := g) rfl
          have hr := run_append_grow (P := P) w t ty e i z E.und hinf hz ⟨g, 0, none⟩ n cap xs hown.1 holds ⟨b, o, none⟩ m c news hl hcell (by omega) (by omega) (growslice_fits (by omega) hbytes)
          rw [hrun] at hr
          injection hr with h1 h2
          subst h1; exact .inr rfl
    · intro hpos
      rcases how.2 with ⟨rfl, h0⟩ | ⟨g, cap, cur, rfl, _⟩
      · omega
      · exact ⟨g, cap, rfl⟩

theorem foldl_set (l : List Value) : ∀ (n : Nat) (pre : List Value) (cs : List Value), pre.length = n → l.length ≤ cs.length →
    ((l.zipIdx n).foldl (fun cs (c, j) => cs.setIfInBounds j c) (pre ++ cs).toArray : Array Value) = (pre ++ l ++ cs.drop l.length).toArray := by
  induction l with
  | nil => intro n pre cs _ _; simp
  | cons x r ih =>
    intro n pre cs hp hl
    cases cs with
    | nil => simp at hl
    | cons y t =>
      simp only [List.zipIdx_cons, List.foldl_cons]
      have : ((pre ++ y :: t).toArray.setIfInBounds n x : Array Value) = ((pre ++ [x]) ++ t).toArray := by
        apply Array.ext'
        simp [← hp]
      rw [this, ih (n + 1) (pre ++ [x]) t (by simp [hp]) (by simpa using hl)]
      simp
/-- a slice of one element, written out -/
theorem RunV.build1 {P : Program} {t e : TypeId} {z : Value} {size bytes : Nat} (E : ElemT P t e z size bytes) (hsz : size ≤ 16777216) {w : World} {K : Value → World → Prop} {v : Value} (hv : v.cells.size = size)
    (k : ∀ w', Has w' w.heap.size v.cells.toList → Fr (fun _ => False) w w' → w'.heap.size = w.heap.size + 1 → K (.slice (some ⟨w.heap.size, 0, none⟩) 1 1) w') :
    RunV P (Instr.buildSlice t 1 #[(0, v)]) w K := by
  have hi := E.info
  cases hinf : P.info? e with
  | none => rw [hinf] at hi; cases hi
  | some i =>
    rw [hinf] at hi
    simp only [Option.map_some, Option.some.injEq, Prod.mk.injEq] at hi
    obtain ⟨hz, hs, hb⟩ := hi
    refine ⟨_, w.alloc (.cells v.cells e), ?_, k _ (Has.made w v.cells e) (Fr.made w _) (by simp)⟩
    have h0 : size ≠ 0 := by have := E.pos; omega
    have hle : ¬ (size > 2 ^ 24) := by omega
    have hfill : (v.cells.zipIdx.foldl (fun cs (c, j) => cs.setIfInBounds (0 * size + j) c) ((Array.range size).map (fun x => z.cells[x % z.cells.size]!)) : Array Value) = v.cells := by
      have := foldl_set v.cells.toList 0 [] ((List.range size).map (fun x => z.cells[x % z.cells.size]!)) rfl (by simp [hv])
      simp only [List.nil_append] at this
      rw [← Array.foldl_toList, Array.toList_zipIdx]
      have e2 : (Array.range size).map (fun x => z.cells[x % z.cells.size]!) = ((List.range size).map (fun x => z.cells[x % z.cells.size]!)).toArray := by
        apply Array.ext'; simp
      rw [e2]
      simp only [Nat.zero_mul, Nat.zero_add]
      rw [this]
      apply Array.ext'
      simp [hv]
    simp only [Instr.buildSlice, Sem.run_bind, under_run E.und, Result.andThen_ok, size_run (show sizeP P e = some size by simp [sizeP, hinf, hs]), Nat.one_mul, if_neg hle, if_neg h0,
      zero_run (show zeroP P e = some z by simp [zeroP, hinf, hz]), Sem.run_pure, Instr.fill]
    rw [if_neg (by simp [hv])]
    simp only [hfill]
    simp [newRow]
end Go.Sh
