/- What reads as data is an index, a symbol, a site. -/
import Derived.Test.YtfgefjpgmfjmjaaGreatDoorIxLaw
import Derived.ProofKit
import Derived.Deep.Slices
namespace Go.Proofs.YtfgefjpgmfjmjaaGreatDoor
open Go Go.RowKit Go.Shelf Go.Lib Go.ChangeShapes Go.WideShapes Go.ChangeAt

section
variable {H : Type} {enc : TypeId × Value → H} {w : World} {base : Nat} {spare : Nat → Bool} {held : Bool} {fuel : Nat} {cs : List Value} {x : DataW H × List MemPlace}

theorem cells9 : Tryz.prog.cellsOf 9 = 1 := by kernel_rfl
theorem cells3 : Tryz.prog.cellsOf 3 = 1 := by kernel_rfl
theorem cells50 : Tryz.prog.cellsOf 50 = 5 := by kernel_rfl
theorem cells60 : Tryz.prog.cellsOf 60 = 2 := by kernel_rfl
theorem cells61 : Tryz.prog.cellsOf 61 = 1 := by kernel_rfl
theorem cells63 : Tryz.prog.cellsOf 63 = 6 := by kernel_rfl
theorem cells44 : Tryz.prog.cellsOf 44 = 1 := by kernel_rfl
theorem cells46 : Tryz.prog.cellsOf 46 = 1 := by kernel_rfl

theorem string_cell {v : Value} (h : DataW.trod enc Tryz.prog w base spare held fuel 9 [v] = some x) : ∃ s, v = .string s := by
  obtain ⟨s, e, _⟩ := DataW.trod_string Tryz.underlying9 h
  exact ⟨s, by simpa using e⟩
theorem int_cell {v : Value} (h : DataW.trod enc Tryz.prog w base spare held fuel 3 [v] = some x) : ∃ s, v = .int .i64 s := by
  obtain ⟨s, e, _⟩ := DataW.trod_int Tryz.underlying3 h
  exact ⟨s, by simpa using e⟩
theorem some_of {α : Type} {l : List α} {i : Nat} (h : i < l.length) {o : Option α} (e : o = l[i]?) : ∃ y, o = some y := ⟨l[i], by rw [e, List.getElem?_eq_getElem h]⟩

set_option maxRecDepth 100000 in
theorem site_of (h : DataW.trod enc Tryz.prog w base spare held fuel 60 cs = some x) : ∃ s : Site, cs = encSite s := by
  obtain ⟨xs, n, _, _, hl, hlen, hf⟩ := DataW.trod_struct Tryz.underlying60 h
  rw [cells60] at hl
  match cs, hl with
  | [c0, c1], _ =>
    have hx : xs.length = 2 := hlen
    have f0 : DataW.trod enc Tryz.prog w base spare held n 9 (([c0, c1] : List Value).drop 0 |>.take (Tryz.prog.cellsOf 9)) = xs[0]? := hf 0 _ rfl
    have f1 : DataW.trod enc Tryz.prog w base spare held n 3 (([c0, c1] : List Value).drop 1 |>.take (Tryz.prog.cellsOf 3)) = xs[1]? := hf 1 _ rfl
    rw [cells9] at f0
    rw [cells3] at f1
    obtain ⟨y0, g0⟩ := some_of (by omega) f0
    obtain ⟨y1, g1⟩ := some_of (by omega) f1
    obtain ⟨s0, rfl⟩ := string_cell g0
    obtain ⟨s1, rfl⟩ := int_cell g1
    exact ⟨(s0, s1), rfl⟩
set_option maxRecDepth 100000 in
theorem sym_of (h : DataW.trod enc Tryz.prog w base spare held fuel 50 cs = some x) : ∃ s : Sym, cs = encSym s := by
  obtain ⟨xs, n, _, _, hl, hlen, hf⟩ := DataW.trod_struct Tryz.underlying50 h
  rw [cells50] at hl
  match cs, hl with
  | [c0, c1, c2, c3, c4], _ =>
    have hx : xs.length = 5 := hlen
    have f0 : DataW.trod enc Tryz.prog w base spare held n 9 (([c0, c1, c2, c3, c4] : List Value).drop 0 |>.take (Tryz.prog.cellsOf 9)) = xs[0]? := hf 0 _ rfl
    have f1 : DataW.trod enc Tryz.prog w base spare held n 9 (([c0, c1, c2, c3, c4] : List Value).drop 1 |>.take (Tryz.prog.cellsOf 9)) = xs[1]? := hf 1 _ rfl
    have f2 : DataW.trod enc Tryz.prog w base spare held n 9 (([c0, c1, c2, c3, c4] : List Value).drop 2 |>.take (Tryz.prog.cellsOf 9)) = xs[2]? := hf 2 _ rfl
    have f3 : DataW.trod enc Tryz.prog w base spare held n 3 (([c0, c1, c2, c3, c4] : List Value).drop 3 |>.take (Tryz.prog.cellsOf 3)) = xs[3]? := hf 3 _ rfl
    have f4 : DataW.trod enc Tryz.prog w base spare held n 9 (([c0, c1, c2, c3, c4] : List Value).drop 4 |>.take (Tryz.prog.cellsOf 9)) = xs[4]? := hf 4 _ rfl
    rw [cells9] at f0 f1 f2 f4
    rw [cells3] at f3
    obtain ⟨y0, g0⟩ := some_of (by omega) f0
    obtain ⟨y1, g1⟩ := some_of (by omega) f1
    obtain ⟨y2, g2⟩ := some_of (by omega) f2
    obtain ⟨y3, g3⟩ := some_of (by omega) f3
    obtain ⟨y4, g4⟩ := some_of (by omega) f4
    obtain ⟨s0, rfl⟩ := string_cell g0
    obtain ⟨s1, rfl⟩ := string_cell g1
    obtain ⟨s2, rfl⟩ := string_cell g2
    obtain ⟨s3, rfl⟩ := int_cell g3
    obtain ⟨s4, rfl⟩ := string_cell g4
    exact ⟨(s0, s1, s2, s3, s4), rfl⟩

/-- An address at which cells stand. -/
theorem spot_none {a : Addr} {k : Nat} {cs : List Value} (h : w.cells? base a k = some cs) (hk : 0 < k) : ∃ b off, a = ⟨b, off, none⟩ := by
  obtain ⟨_, hl, hc⟩ := World.cells?_some h
  have h0 := hc 0 hk
  rw [List.getElem?_eq_getElem (by omega)] at h0
  obtain ⟨b, off, spot⟩ := a
  have hspot : spot = none := by simpa [Addr.add] using World.cell?_spot h0
  subst hspot
  exact ⟨b, off, rfl⟩
theorem cells_at {b off i k : Nat} {cs : List Value} (h : w.cells? base ((⟨b, off, none⟩ : Addr).add (i * k)) k = some cs) : ∀ j u, cs[j]? = some u → w.cell? ⟨b, off + i * k + j, none⟩ = some u := by
  intro j u hu
  obtain ⟨_, hl, hc⟩ := World.cells?_some h
  have hj : j < k := by rw [← hl]; exact (List.getElem?_eq_some_iff.1 hu).1
  have := hc j hj
  rw [hu, Go.WideShapes.add_plain, Go.WideShapes.add_plain] at this
  exact this

theorem sites_of {v : Value} (h : DataW.trod enc Tryz.prog w base (fun _ => true) held fuel 61 [v] = some x) : ∃ l, SitesAt w v l := by
  rcases Go.Deep.open_slice Tryz.underlying61 h with ⟨e, _⟩ | ⟨a, len, cap, m, n, D, Pl, e, _, hle, hmax, hm, _, hx⟩
  · obtain rfl : v = .slice none 0 0 := by simpa using e
    exact ⟨[], none, 0, rfl, Nat.zero_le _, fun h => absurd h (Nat.lt_irrefl _)⟩
  · obtain rfl : v = .slice (some a) len cap := by simpa using e
    simp only [if_true] at hm
    subst hm
    rw [cells60] at hx
    obtain ⟨F, hF⟩ := Go.Deep.choose_lt (α := Site) (n := len) (p := fun i s => w.cells? base (a.add (i * 2)) 2 = some (encSite s)) (fun i hi => by
      obtain ⟨cs', h1, h2⟩ := hx i (by omega)
      obtain ⟨s, rfl⟩ := site_of h2
      exact ⟨s, h1⟩)
    refine ⟨(List.range len).map F, some a, _, by simp; rfl, by simp; omega, fun h0 => ?_⟩
    have h0' : 0 < len := by simpa using h0
    obtain ⟨b, off, e⟩ := spot_none (hF 0 h0') (by omega)
    have ea : a = ⟨b, off, none⟩ := by
      obtain ⟨b', off', sp⟩ := a
      simp [Addr.add] at e
      obtain ⟨rfl, rfl, rfl⟩ := e
      rfl
    subst ea
    refine ⟨b, off, rfl, fun j hj i u hu => ?_⟩
    have hj' : j < len := by simpa using hj
    have eF : ((List.range len).map F)[j]! = F j := by
      rw [getElem!_pos _ j hj]; simp
    rw [eF] at hu
    exact cells_at (hF j hj') i u hu

set_option maxRecDepth 100000 in
theorem row_of (h : DataW.trod enc Tryz.prog w base (fun _ => true) held fuel 63 cs = some x) : ∃ r : IRow, cs = encIRow r ∧ SitesAt w r.2.1 r.2.2 := by
  obtain ⟨xs, n, _, _, hl, hlen, hf⟩ := DataW.trod_struct Tryz.underlying63 h
  rw [cells63] at hl
  match cs, hl with
  | [c0, c1, c2, c3, c4, c5], _ =>
    have hx : xs.length = 2 := hlen
    have f0 : DataW.trod enc Tryz.prog w base (fun _ => true) held n 50 (([c0, c1, c2, c3, c4, c5] : List Value).drop 0 |>.take (Tryz.prog.cellsOf 50)) = xs[0]? := hf 0 _ rfl
    have f1 : DataW.trod enc Tryz.prog w base (fun _ => true) held n 61 (([c0, c1, c2, c3, c4, c5] : List Value).drop 5 |>.take (Tryz.prog.cellsOf 61)) = xs[1]? := hf 1 _ rfl
    rw [cells50] at f0
    rw [cells61] at f1
    obtain ⟨y0, g0⟩ := some_of (by omega) f0
    obtain ⟨y1, g1⟩ := some_of (by omega) f1
    obtain ⟨s, hs⟩ := sym_of g0
    have g1' : DataW.trod enc Tryz.prog w base (fun _ => true) held n 61 [c5] = some y1 := g1
    obtain ⟨l, hl⟩ := sites_of g1'
    have hs' : [c0, c1, c2, c3, c4] = encSym s := hs
    exact ⟨(s, c5, l), by rw [encIRow, ← hs']; rfl, hl⟩

theorem rows_of {v : Value} (h : DataW.trod enc Tryz.prog w base (fun _ => true) held fuel 44 [v] = some x) : ∃ rs, RowsAt w v rs ∧ ∀ r ∈ rs, SitesAt w r.2.1 r.2.2 := by
  rcases Go.Deep.open_slice Tryz.underlying44 h with ⟨e, _⟩ | ⟨a, len, cap, m, n, D, Pl, e, _, hle, hmax, hm, _, hx⟩
  · obtain rfl : v = .slice none 0 0 := by simpa using e
    exact ⟨[], ⟨none, 0, rfl, Nat.zero_le _, fun h => absurd h (Nat.lt_irrefl _)⟩, fun r hr => by cases hr⟩
  · obtain rfl : v = .slice (some a) len cap := by simpa using e
    simp only [if_true] at hm
    subst hm
    rw [cells63] at hx
    obtain ⟨F, hF⟩ := Go.Deep.choose_lt (α := IRow) (n := len) (p := fun i r => w.cells? base (a.add (i * 6)) 6 = some (encIRow r) ∧ SitesAt w r.2.1 r.2.2) (fun i hi => by
      obtain ⟨cs', h1, h2⟩ := hx i (by omega)
      obtain ⟨r, rfl, hs⟩ := row_of h2
      exact ⟨r, h1, hs⟩)
    refine ⟨(List.range len).map F, ⟨some a, _, by simp; rfl, by simp; omega, fun h0 => ?_⟩, fun r hr => ?_⟩
    · have h0' : 0 < len := by simpa using h0
      obtain ⟨b, off, e⟩ := spot_none (hF 0 h0').1 (by omega)
      have ea : a = ⟨b, off, none⟩ := by
        obtain ⟨b', off', sp⟩ := a
        simp [Addr.add] at e
        obtain ⟨rfl, rfl, rfl⟩ := e
        rfl
      subst ea
      refine ⟨b, off, rfl, fun j hj i u hu => ?_⟩
      have hj' : j < len := by simpa using hj
      have eF : ((List.range len).map F)[j]! = F j := by
        rw [getElem!_pos _ j hj]; simp
      rw [eF] at hu
      exact cells_at (hF j hj').1 i u hu
    · obtain ⟨i, hi, rfl⟩ := List.mem_map.1 hr
      exact (hF i (List.mem_range.1 hi)).2

set_option maxRecDepth 100000 in
/-- The three arguments. -/
theorem index_arg {r : Reach} {b0 : Nat} {v : Value} {d : DataW H} {p : List MemPlace} (hv : Value.okWide Tryz.prog w r b0 46 v) (h : DataW.Trod enc Tryz.prog w base (fun _ => true) held 46 v d p) :
    ∃ rv rs, v = .agg #[rv] ∧ RowsAt w rv rs ∧ ∀ r ∈ rs, SitesAt w r.2.1 r.2.2 := by
  obtain ⟨cs, rfl, hsz⟩ := okWide_struct Tryz.underlying46 hv
  rw [cells46] at hsz
  obtain ⟨⟨l⟩, hsz'⟩ : ∃ l : Array Value, l = cs := ⟨cs, rfl⟩
  subst hsz'
  match l, hsz with
  | [rv], _ =>
    obtain ⟨fuel, hf⟩ := h
    obtain ⟨xs, n, _, _, hl, hlen, hff⟩ := DataW.trod_struct Tryz.underlying46 hf
    have hx : xs.length = 1 := hlen
    have f0 : DataW.trod enc Tryz.prog w base (fun _ => true) held n 44 (([rv] : List Value).drop 0 |>.take (Tryz.prog.cellsOf 44)) = xs[0]? := hff 0 _ rfl
    rw [cells44] at f0
    obtain ⟨y0, g0⟩ := some_of (by omega) f0
    have g0' : DataW.trod enc Tryz.prog w base (fun _ => true) held n 44 [rv] = some y0 := g0
    obtain ⟨rs, h1, h2⟩ := rows_of g0'
    exact ⟨rv, rs, rfl, h1, h2⟩
set_option maxRecDepth 100000 in
theorem sym_arg {r : Reach} {b0 : Nat} {v : Value} {d : DataW H} {p : List MemPlace} (hv : Value.okWide Tryz.prog w r b0 50 v) (h : DataW.Trod enc Tryz.prog w base spare held 50 v d p) : ∃ s : Sym, v = .agg (encSym s).toArray := by
  obtain ⟨cs, rfl, _⟩ := okWide_struct Tryz.underlying50 hv
  obtain ⟨fuel, hf⟩ := h
  obtain ⟨s, e⟩ := sym_of hf
  exact ⟨s, by rw [← e]; simp [Value.cells]⟩
set_option maxRecDepth 100000 in
theorem site_arg {r : Reach} {b0 : Nat} {v : Value} {d : DataW H} {p : List MemPlace} (hv : Value.okWide Tryz.prog w r b0 60 v) (h : DataW.Trod enc Tryz.prog w base spare held 60 v d p) : ∃ s : Site, v = .agg (encSite s).toArray := by
  obtain ⟨cs, rfl, _⟩ := okWide_struct Tryz.underlying60 hv
  obtain ⟨fuel, hf⟩ := h
  obtain ⟨s, e⟩ := site_of hf
  exact ⟨s, by rw [← e]; simp [Value.cells]⟩
end
end Go.Proofs.YtfgefjpgmfjmjaaGreatDoor
