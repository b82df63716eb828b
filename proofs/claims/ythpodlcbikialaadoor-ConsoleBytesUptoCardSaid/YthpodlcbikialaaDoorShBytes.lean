import Derived.Test.YthpodlcbikialaaDoorShMems
import Derived.Laws.BytesArg
import Derived.Lib.ConvBytes
set_option linter.unusedVariables false
set_option linter.unusedSimpArgs false
set_option linter.unusedVariables false
namespace Go.Sh
variable {P : Program}
/-- bytes as the cells of a row -/
def bv (x : UInt8) : Value := .int .u8 (x.toNat : Int)
abbrev bvs (l : List UInt8) : List Value := l.map bv
def str (l : List UInt8) : ByteArray := ⟨l.toArray⟩
@[simp] theorem str_list (l : List UInt8) : (str l).data.toList = l := by simp [str]
@[simp] theorem str_size (l : List UInt8) : (str l).size = l.length := by simp [str, ByteArray.size]
theorem str_data (s : ByteArray) : str s.data.toList = s := by simp [str]
theorem str_append (a b : List UInt8) : str a ++ str b = str (a ++ b) := by
  apply ByteArray.ext; simp [str]
theorem str_get (l : List UInt8) (i : Nat) : (str l)[i]? = l[i]? := by
  simp only [getElem?_def, str_size]
  split
  · rename_i h; show some (l.toArray[i]'(by simpa using h)) = some l[i]; simp
  · rfl
theorem str_extract (l : List UInt8) (a b : Nat) : (str l).extract a b = str ((l.drop a).take (b - a)) := by
  apply ByteArray.ext
  simp only [ByteArray.data_extract, str]
  apply Array.ext'
  simp [List.take_drop]
theorem str_inj {a b : List UInt8} : str a = str b ↔ a = b := ⟨fun h => by simpa using congrArg (fun x : ByteArray => x.data.toList) h, fun h => by rw [h]⟩
theorem toList_eq {a b : ByteArray} : (a.toList == b.toList) = (a.data.toList == b.data.toList) := by
  rw [ByteArray.toList_eq, ByteArray.toList_eq]
theorem bv_one (x : UInt8) : (bv x).oneCell' = true := rfl
/-- string(b) -/
theorem RunV.toStr {src e dst : TypeId} (hs : P.underlying src = some (.slice e)) (he : P.underlying e = some (.int .u8)) (hd : P.underlying dst = some .string) {w : World} {p : Option Addr} {n c : Nat} {l : List UInt8}
    (h : Rd w p (bvs l)) (hn : l.length = n) {K : Value → World → Prop} (k : K (.string (str l)) w) : RunV P (convert src dst (.slice p n c)) w K := by
  refine ⟨.string (str l), w, ?_, k⟩
  by_cases hl : l = []
  · subst hl
    subst hn
    cases p with
    | none => exact run_convert_bytes_nil w src e hs he _ _ dst hd
    | some a =>
      rw [run_convert_bytes_string w src dst e _ _ c hs he hd, run_bytesToString w a _ c [] (by simpa using run_loadCells_list (P := P) w a [] (by simp))]
      rfl
  · have hpos : 0 < l.length := List.length_pos_iff.2 hl
    obtain ⟨b, o, rfl, _⟩ := h 0 (bv (l[0])) (by rw [List.getElem?_map, List.getElem?_eq_getElem hpos]; rfl)
    have key : ∀ i (hi : i < n), w.cell? ⟨b, o + i, none⟩ = some (.int .u8 ((l.map fun u => (u.toNat : Int)).getD i 0)) := fun i hi => by
      have hil : i < l.length := by omega
      obtain ⟨b', o', hp, hc⟩ := h i (bv l[i]) (by rw [List.getElem?_map, List.getElem?_eq_getElem hil]; rfl)
      injection hp with hp; injection hp with h1 h2; subst h1 h2
      rw [hc, List.getD_eq_getElem?_getD, List.getElem?_map, List.getElem?_eq_getElem hil]
      rfl
    have := run_convert_bytes_arg (P := P) w src e hs he b o n c (l.map fun u => (u.toNat : Int)) (by simpa using hn) key dst hd
    have e : strOfNums (l.map fun u => (u.toNat : Int)) = str l := by
      unfold strOfNums str
      congr 2
      rw [List.map_map]
      exact (List.map_congr_left fun u _ => by simp).trans (List.map_id l)
    rw [this, e]
/-- []byte(s) -/
theorem RunV.toBytes {src e dst : TypeId} {u : TypeDesc} (hs : P.underlying src = some u) (hd : P.underlying dst = some (.slice e)) (he : P.underlying e = some (.int .u8)) {w : World} {s : ByteArray}
    {K : Value → World → Prop} (k : ∀ w' c, Rd w' (some ⟨w.heap.size, 0, none⟩) (bvs s.data.toList) → Fr0 w w' → K (.slice (some ⟨w.heap.size, 0, none⟩) s.size c) w') :
    RunV P (convert src dst (.string s)) w K := by
  refine ⟨_, _, Lib.run_convert_string_bytes w src dst e s hs hd he, k _ _ (fun i v hv => ⟨_, _, rfl, ?_⟩) ⟨rfl, rfl, ?_, ?_, fun b hb _ => Lib.bytesWorld_at_old w e s b hb⟩⟩
  · have hi : i < s.data.toList.length := by
      have := (List.getElem?_eq_some_iff.1 hv).1; rwa [List.length_map] at this
    have hv' : bv s.data.toList[i] = v := by
      rw [List.getElem?_map, List.getElem?_eq_getElem hi] at hv; exact Option.some.inj hv
    rw [Nat.zero_add, Lib.bytesWorld_cell w e s i (by rw [Array.length_toList] at hi; exact hi), ← hv', List.getD_eq_getElem?_getD, List.getElem?_eq_getElem hi]
    rfl
  · rfl
  · rw [Lib.bytesWorld_size]; omega
/-- append(v, x...): v is owned, x may be read; what comes is owned, in v's own block or in a new one -/
theorem append_addr {t e ty : TypeId} {z : Value} {size bytes : Nat} (E : ElemT P t e z size bytes) {w : World} {K : Value → World → Prop} {B : Nat}
    {p : Option Addr} {n c : Nat} {xs : List Value} (h : Sl w B e size p n c xs) (hB : B ≤ w.heap.size)
    {a : Addr} {m c' : Nat} {news : List Value} (hcell : ∀ j u, news[j]? = some u → w.cell? (a.add j) = some u) (hl : news.length = m * size) (h1 : ∀ u ∈ news, u.oneCell' = true)
    (h63 : n + m ≤ maxLen) (hbytes : (n + m) * bytes ≤ 140737488355328)
    (k : ∀ p' c' w', Sl w' B e size p' (n + m) c' (xs ++ news) → Fr (On p) w w' → (∀ b, On p' b → On p b ∨ w.heap.size ≤ b) → K (.slice p' (n + m) c') w') :
    RunV P (Builtin.append_ #[t, t] ty #[.slice p n c, .slice (some a) m c']) w K := by
  have hi := E.info
  cases hinf : P.info? e with
  | none => rw [hinf] at hi; cases hi
  | some i =>
    rw [hinf] at hi
    simp only [Option.map_some, Option.some.injEq, Prod.mk.injEq] at hi
    obtain ⟨hz, hs, hb⟩ := hi
    obtain ⟨v', w', hrun, how, hgr, hiff⟩ := run_append_own w B t ty e i z size bytes E.und hinf hz hs hb E.zs E.pos (.slice p n c) n xs h a m c' news hl hcell h1 h63 hbytes hB
    obtain ⟨p', c1, rfl⟩ : ∃ p' c1, v' = .slice p' (n + m) c1 := by
      rcases how.2 with ⟨h0, h1⟩ | ⟨g, cap, cur, h0, _⟩
      · exact ⟨none, 0, by rw [h0, h1]⟩
      · exact ⟨_, _, h0⟩
    refine ⟨_, w', hrun, k p' c1 w' how ⟨hgr.os, hgr.output, hgr.tape, hgr.size, fun k hk hn => hgr.block k hk fun h' => hn (On.own.1 h')⟩ fun b' hb' => ?_⟩
    rcases Nat.lt_or_ge b' w.heap.size with hlt | hge
    · left
      obtain ⟨a', rfl, rfl⟩ := hb'
      -- an elder block that it lies in is v's own
      rcases h.2 with ⟨h0, hn0⟩ | ⟨g, cap, cur, hv, hbg, hg, hnc, hcm, hcs, htake⟩
      · injection h0 with h0 h2 h3; subst h0 h2 h3
        by_cases hm : m = 0
        · subst hm; have := hiff.2 ⟨rfl, rfl⟩; injection this with this; cases this
        · subst hs hb
          have hr := run_append_nil (P := P) w t ty e i z E.und hinf hz a m c' news hl hcell (by omega) (by simp only [maxLen] at h63; omega) (by have hb := hbytes; simp only [Nat.zero_add] at hb; omega)
          rw [hrun] at hr
          injection hr with h1 h2
          injection h1 with h1
          injection h1 with h1
          rw [h1] at hlt
          exact absurd hlt (by show ¬ w.heap.size < w.heap.size; omega)
      · injection hv with h1 h2 h3; subst h1 h3
        subst hs hb
        by_cases hroom : n + m ≤ c
        · have hfit : n * i.size + news.length ≤ cur.size := by rw [hl, hcs, ← Nat.add_mul]; exact Nat.mul_le_mul_right _ hroom
          have hr := run_append_room (P := P) (ty := ty) w t e i E.und hinf g n c cur hg a m c' news hl hcell (by assumption) hroom hfit
          rw [hrun] at hr
          injection hr with h1 h2
          injection h1 with h1
          injection h1 with h1
          exact ⟨_, rfl, by rw [h1]⟩
        · have holds : ∀ j u, xs[j]? = some u → w.cell? ((⟨g, 0, none⟩ : Addr).add j) = some u := World.ownsRow.cells h (g := g) rfl
          have hr := run_append_grow (P := P) w t ty e i z E.und hinf hz ⟨g, 0, none⟩ n c xs h.1 holds a m c' news hl hcell (by omega) (by simp only [maxLen] at h63; omega) (growslice_fits (by omega) hbytes)
          rw [hrun] at hr
          injection hr with h1 h2
          injection h1 with h1
          injection h1 with h1
          rw [h1] at hlt
          exact absurd hlt (by show ¬ w.heap.size < w.heap.size; omega)
    · exact .inr hge
/-- append(v, x...) of bytes that may be read -/
theorem append_rd {t e ty : TypeId} {z : Value} {bytes : Nat} (E : ElemT P t e z 1 bytes) {w : World} {K : Value → World → Prop} {B : Nat}
    {p : Option Addr} {n c : Nat} {xs : List Value} (h : Sl w B e 1 p n c xs) (hB : B ≤ w.heap.size)
    {q : Option Addr} {m c' : Nat} {news : List Value} (hR : Rd w q news) (hl : news.length = m) (hq : q = none → c' = 0) (h1 : ∀ u ∈ news, u.oneCell' = true)
    (h63 : n + m ≤ maxLen) (hbytes : (n + m) * bytes ≤ 140737488355328)
    (k : ∀ p' c' w', Sl w' B e 1 p' (n + m) c' (xs ++ news) → Fr (On p) w w' → (∀ b, On p' b → On p b ∨ w.heap.size ≤ b) → K (.slice p' (n + m) c') w') :
    RunV P (Builtin.append_ #[t, t] ty #[.slice p n c, .slice q m c']) w K := by
  by_cases hm : news = []
  · subst hm
    subst hl
    cases q with
    | none => rw [hq rfl]; exact append_src E h hB ⟨by simp, .inl ⟨rfl, rfl, rfl⟩⟩ h1 h63 hbytes k
    | some a => exact append_addr E h hB (a := a) (news := []) (fun j u hj => by simp at hj) (by simp) h1 h63 hbytes k
  · have hpos : 0 < news.length := List.length_pos_iff.2 hm
    obtain ⟨b, o, rfl, _⟩ := hR 0 _ (List.getElem?_eq_getElem hpos)
    refine append_sl E h hB (b := b) (o := o) (news := news) (fun j u hj => ?_) (by omega) h1 h63 hbytes k
    obtain ⟨b', o', hp, hc⟩ := hR j u hj
    injection hp with hp; injection hp with h1 h2; subst h1 h2
    exact hc
end Go.Sh
