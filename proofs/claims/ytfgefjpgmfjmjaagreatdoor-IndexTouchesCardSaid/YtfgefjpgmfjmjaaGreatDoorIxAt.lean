/- What the program's At does. -/
import Derived.Test.YtfgefjpgmfjmjaaGreatDoorIxSame
import Derived.Laws.ResultCell
namespace Go.Proofs.YtfgefjpgmfjmjaaGreatDoor
open Go Go.RowKit Go.Shelf Go.Lib

set_option maxHeartbeats 1000000 in
theorem contains_zero (oa : Option Addr) (c : Nat) (x : Site) (w : World) : Calls Tryz.prog 48 #[.slice oa 0 c, .agg (encSite x).toArray] w fun e w' => e = .returned (.bool false) ∧ Below w.heap.size w w' := by
  have B2 : Aside (Below w.heap.size w ((w.alloc (.cells (encSite x).toArray 60)).alloc (.cells (encSite x).toArray 60))) := ((Below.refl _ w).alloc (Nat.le_refl _) _).alloc (by simp) _
  simp only [encSite] at B2 ⊢
  go_enter Tryz.func48, Tryz.ntmps48
  go_wp2
  go_loopg [8] 0 (fun _ s8 wr => s8 = .int .i64 0 ∧ wr = (w.alloc (.cells #[.string x.1, .int .i64 x.2] 60)).alloc (.cells #[.string x.1, .int .i64 x.2] 60))
  case atStart => exact ⟨rfl, rfl⟩
  case round =>
    obtain ⟨rfl, rfl⟩ := hrel
    go_wp2
    go_ret
    exact ⟨rfl, B2.out⟩

theorem contains_sites (l : List Site) (v : Value) (x : Site) (w : World) (h : SitesAt w v l) : Calls Tryz.prog 48 #[v, .agg (encSite x).toArray] w fun e w' => e = .returned (.bool (l.any fun y => siteEq x y)) ∧ Below w.heap.size w w' := by
  obtain ⟨oa, c, rfl, hm, hc⟩ := h
  rcases Nat.eq_zero_or_pos l.length with h0 | h0
  · have hl0 : l = [] := List.length_eq_zero_iff.1 h0
    subst hl0
    exact contains_zero oa c x w
  · obtain ⟨b, off, rfl, hx⟩ := hc h0
    have := AnyQ.slices_Contains Tryz.containsSite 2 Tryz.isAgg60 Tryz.sizeOf60 encSite siteLen siteEq eqlSite b off l.length c l x w (Nat.le_refl _) (by unfold maxLen at hm; omega) hx
    rw [List.take_length] at this
    exact this

theorem frozen_new (w : World) (cs : Array Value) (t : TypeId) (i : Nat) : (w.alloc (.cells cs t)).frozen? ⟨w.heap.size, i, none⟩ = false := by
  have h : (w.alloc (.cells cs t)).heap[w.heap.size]? = some (.cells cs t (0, 0)) := by
    show (w.heap.push _)[w.heap.size]? = _
    simp
  simp only [World.frozen?, h]
  simp

def rowHas (site : Site) (r : IRow) : Bool := r.2.2.any fun y => siteEq site y
def zeroSym : Sym := (ByteArray.empty, ByteArray.empty, ByteArray.empty, 0, ByteArray.empty)
def AtGives (site : Site) (rs : List IRow) (e : Ending) : Prop :=
  match rs.find? (rowHas site) with
  | some r => e = .returned (.tuple #[.agg (encSym r.1).toArray, .int .i64 0])
  | none => e = .returned (.tuple #[.agg (encSym zeroSym).toArray, .int .i64 4])
theorem AtGives.hit {site : Site} {rs : List IRow} {r : IRow} (h : rs.find? (rowHas site) = some r) : AtGives site rs (.returned (.tuple #[.agg (encSym r.1).toArray, .int .i64 0])) := by unfold AtGives; rw [h]
theorem AtGives.miss {site : Site} {rs : List IRow} (h : rs.find? (rowHas site) = none) : AtGives site rs (.returned (.tuple #[.agg (encSym zeroSym).toArray, .int .i64 4])) := by unfold AtGives; rw [h]

set_option maxHeartbeats 4000000 in
theorem ixAt (s : Site) (rv : Value) (rs : List IRow) (w : World) (hr : RowsAt w rv rs) (hs : ∀ r ∈ rs, SitesAt w r.2.1 r.2.2 ∧ r.2.2.length ≤ 500) :
    Calls Tryz.prog 21 #[.agg #[rv], .agg (encSite s).toArray] w fun e w' => AtGives s rs e ∧ Below w.heap.size w w' := by
  obtain ⟨oa, c, rfl, hlen, hcells⟩ := hr
  have hbig : (rs.length : Int) ≤ 9223372036854775807 := by unfold maxLen at hlen; omega
  have C : Aside ((0 < rs.length → ∃ b off, oa = some ⟨b, off, none⟩ ∧ ∀ j, j < rs.length → ∀ i u, (encIRow rs[j]!)[i]? = some u → w.cell? ⟨b, off + j * 6 + i, none⟩ = some u) ∧ ∀ r ∈ rs, SitesAt w r.2.1 r.2.2 ∧ r.2.2.length ≤ 500) := ⟨hcells, hs⟩
  clear hcells hs
  go_enter Tryz.func21, Tryz.ntmps21
  go_wp2
  have B2 : Below w.heap.size w (((w.alloc (.cells #[Value.slice oa rs.length c] 46)).alloc (.cells (encSite s).toArray 60)).alloc (.cells (encSym zeroSym).toArray 50)) := (((Below.refl _ w).alloc (Nat.le_refl _) _).alloc (by simp) _).alloc (by simp; omega) _
  have hb3 : SiteCells (((w.alloc (.cells #[Value.slice oa rs.length c] 46)).alloc (.cells (encSite s).toArray 60)).alloc (.cells (encSym zeroSym).toArray 50)) (w.heap.size + 1) 0 s := by
    have := SiteCells.new (w.alloc (.cells #[Value.slice oa rs.length c] 46)) s 60
    have e : (w.alloc (.cells #[Value.slice oa rs.length c] 46)).heap.size = w.heap.size + 1 := by simp
    rw [e] at this
    exact this.alloc _
  have hb4 : SymCells (((w.alloc (.cells #[Value.slice oa rs.length c] 46)).alloc (.cells (encSite s).toArray 60)).alloc (.cells (encSym zeroSym).toArray 50)) (w.heap.size + 1 + 1) 0 zeroSym := by
    have := SymCells.new ((w.alloc (.cells #[Value.slice oa rs.length c] 46)).alloc (.cells (encSite s).toArray 60)) zeroSym 50
    have e : ((w.alloc (.cells #[Value.slice oa rs.length c] 46)).alloc (.cells (encSite s).toArray 60)).heap.size = w.heap.size + 1 + 1 := by simp
    rw [e] at this
    exact this
  have hb5 : ∀ i, (((w.alloc (.cells #[Value.slice oa rs.length c] 46)).alloc (.cells (encSite s).toArray 60)).alloc (.cells (encSym zeroSym).toArray 50)).frozen? ⟨w.heap.size + 1 + 1, i, none⟩ = false := by
    intro i
    have := frozen_new ((w.alloc (.cells #[Value.slice oa rs.length c] 46)).alloc (.cells (encSite s).toArray 60)) (encSym zeroSym).toArray 50 i
    have e : ((w.alloc (.cells #[Value.slice oa rs.length c] 46)).alloc (.cells (encSite s).toArray 60)).heap.size = w.heap.size + 1 + 1 := by simp
    rw [e] at this
    exact this
  have hw2 : ((w.alloc (.cells #[Value.slice oa rs.length c] 46)).alloc (.cells (encSite s).toArray 60)).alloc (.cells #[.string { data := #[] }, .string { data := #[] }, .string { data := #[] }, .int .i64 0, .string { data := #[] }] 50) = ((w.alloc (.cells #[Value.slice oa rs.length c] 46)).alloc (.cells (encSite s).toArray 60)).alloc (.cells (encSym zeroSym).toArray 50) := rfl
  rw [hw2]
  clear hw2
  generalize ((w.alloc (.cells #[Value.slice oa rs.length c] 46)).alloc (.cells (encSite s).toArray 60)).alloc (.cells (encSym zeroSym).toArray 50) = w2 at *
  have B3 : Aside (Below w.heap.size w w2 ∧ SiteCells w2 (w.heap.size + 1) 0 s ∧ SymCells w2 (w.heap.size + 1 + 1) 0 zeroSym ∧ ∀ i, w2.frozen? ⟨w.heap.size + 1 + 1, i, none⟩ = false) := ⟨B2, hb3, hb4, hb5⟩
  clear B2 hb3 hb4 hb5
  go_loopg [11] rs.length (fun g s11 wr => ∃ kk : Nat, kk ≤ rs.length ∧ rs.length - kk ≤ g ∧ s11 = .int .i64 kk ∧ Aside (Below w2.heap.size w2 wr ∧ ∀ j, j < kk → rowHas s rs[j]! = false))
  case atStart => exact ⟨0, Nat.zero_le _, by omega, rfl, Below.refl _ _, fun j hj => absurd hj (Nat.not_lt_zero _)⟩
  case round =>
    obtain ⟨kk, hkk, hg, rfl, A⟩ := hrel
    obtain ⟨B2, hb3, hb4, hb5⟩ := B3.out
    have hw2s : w.heap.size ≤ w2.heap.size := B2.size
    have hwr : w2.heap.size ≤ wr.heap.size := A.out.1.size
    have hbz := hb4.block
    have k3 : SiteCells wr (w.heap.size + 1) 0 s := hb3.mono A.out.1 hb3.block
    have k4 : SymCells wr (w.heap.size + 1 + 1) 0 zeroSym := hb4.mono A.out.1 hb4.block
    have k5 : ∀ i, wr.frozen? ⟨w.heap.size + 1 + 1, i, none⟩ = false := fun i => (A.out.1.frozen hb4.block).trans (hb5 i)
    have K : Aside (SymCells wr (w.heap.size + 1 + 1) 0 zeroSym ∧ ∀ i, wr.frozen? ⟨w.heap.size + 1 + 1, i, none⟩ = false) := ⟨k4, k5⟩
    clear hb3 hb4 hb5
    by_cases hlt : kk < rs.length
    · have hltz : (kk : Int) < (rs.length : Int) := by omega
      obtain ⟨b, off, rfl, hcells⟩ := C.out.1 (by omega)
      obtain ⟨hsym, hsit⟩ := RowsAt.cell hcells hlt
      have hbl := hsym.block
      have j4 : SymCells wr b (off + kk * 6) rs[kk]!.1 := (hsym.mono B2 hbl).mono A.out.1 (by omega)
      have j5 : wr.cell? ⟨b, off + kk * 6 + 5, none⟩ = some rs[kk]!.2.1 := (A.out.1.cell (by show b < _; omega)).trans ((B2.cell hbl).trans hsit)
      have p0 := fun o => (k3.alloc o).c0
      have p1 := fun o => (k3.alloc o).c1
      have r0 := j4.c0
      have r1 := j4.c1
      have r2 := j4.c2
      have r3 := j4.c3
      have r4 := j4.c4
      have hmem : rs[kk]! ∈ rs := by rw [getElem!_pos rs kk hlt]; exact List.getElem_mem _
      obtain ⟨S0, hl5⟩ := C.out.2 _ hmem
      have S1 : SitesAt wr rs[kk]!.2.1 rs[kk]!.2.2 := (S0.mono B2 (Nat.le_refl _)).mono A.out.1 (Nat.le_refl _)
      clear hsym hsit B2 k3 k4 k5 hcells S0 j4
      generalize hrk : rs[kk]! = r at *
      have S2 := S1
      obtain ⟨soa, sc, hsv, _, _⟩ := S1
      rw [hsv] at j5 S2
      have R : Aside (rs[kk]! = r ∧ SitesAt wr (.slice soa r.2.2.length sc) r.2.2) := ⟨hrk, S2⟩
      clear hrk hmem hsv S2 hl5
      generalize hsl : r.2.2.length = sl at *
      clear hsl
      go_wp2_with fail
      have hB : Below wr.heap.size wr (wr.alloc (.cells (encSym r.1 ++ [Value.slice soa sl sc]).toArray 63)) := (Below.refl _ wr).alloc (Nat.le_refl _) _
      have hcl := contains_sites r.2.2 (.slice soa sl sc) s _ (R.out.2.mono hB (Nat.le_refl _))
      refine hcl.mono fun e w3 he => ?_
      obtain ⟨rfl, hb⟩ := he
      have hBB : Below wr.heap.size wr w3 := hB.trans (hb.mono (by simp))
      have z0 : SymCells w3 (w.heap.size + 1 + 1) 0 zeroSym := K.out.1.mono hBB K.out.1.block
      have z5 : ∀ i, w3.frozen? ⟨w.heap.size + 1 + 1, i, none⟩ = false := fun i => (hBB.frozen K.out.1.block).trans (K.out.2 i)
      have y0 : SymCells w3 wr.heap.size 0 r.1 := by
        have h1 : SymCells (wr.alloc (.cells (encSym r.1 ++ [Value.slice soa sl sc]).toArray 63)) wr.heap.size 0 r.1 := SymCells.of fun i u hu => by
          have := World.cell?_alloc_mark wr (encSym r.1 ++ [Value.slice soa sl sc]).toArray 63 (0, 0) i
          rw [Nat.zero_add, this]
          rw [List.getElem?_toArray, List.getElem?_append_left (List.getElem?_eq_some_iff.1 hu).1]; exact hu
        exact h1.mono hb h1.block
      have hB0 : Aside (Below wr.heap.size wr w3) := hBB
      clear hBB hb hB hcl r0 r1 r2 r3 r4 p0 p1 j5
      cases hq : (r.2.2.any fun y => siteEq s y) with
      | true =>
        have q0 := y0.c0
        have q1 := y0.c1
        have q2 := y0.c2
        have q3 := y0.c3
        have q4 := y0.c4
        have x0 := z0.c0
        have x1 := z0.c1
        have x2 := z0.c2
        have x3 := z0.c3
        have x4 := z0.c4
        clear y0 z0
        go_wp2
        (try simp only [Exit.inBlock, Exit.then])
        refine bodyPost_ret (v := .tuple #[.agg (encSym r.1).toArray, .int .i64 0]) ?_ rfl ⟨AtGives.hit ?_, ?_⟩
        · rw [results_cell_tmp rfl]
          simp only [encSym]
          go_simp
        · have := find_hit (p := rowHas s) hlt (by rw [R.out.1]; exact hq) A.out.2
          rw [R.out.1] at this
          exact this
        · have hbase : Below w.heap.size w w3 := (B3.out.1.trans (A.out.1.mono hw2s)).trans (hB0.out.mono (Nat.le_trans hw2s hwr))
          repeat' (first | exact hbase | refine Below.setCell ?_ (by show _ ≤ w.heap.size + 1 + 1; omega) _)
      | false =>
        clear y0 z0 z5
        go_wp2
        go_roundg (rs.length - (kk + 1))
        case measure => omega
        case rel =>
          refine ⟨kk + 1, by omega, by omega, by go_num, (show Aside _ from ⟨A.out.1.trans (hB0.out.mono A.out.1.size), fun j hj => ?_⟩)⟩
          by_cases e : j = kk
          · subst e
            rw [R.out.1]; exact hq
          · exact A.out.2 j (by omega)
    · have hltz : ¬ (kk : Int) < (rs.length : Int) := by omega
      have : kk = rs.length := by omega
      subst this
      have x0 := k4.c0
      have x1 := k4.c1
      have x2 := k4.c2
      have x3 := k4.c3
      have x4 := k4.c4
      clear k3 k4
      go_wp2
      (try simp only [Exit.inBlock, Exit.then])
      refine bodyPost_ret (v := .tuple #[.agg (encSym zeroSym).toArray, .int .i64 4]) ?_ rfl ⟨AtGives.miss (find_miss A.out.2), ?_⟩
      · rw [results_cell_tmp rfl]
        simp only [encSym, zeroSym]
        go_simp
        rfl
      · have hbase : Below w.heap.size w wr := B3.out.1.trans (A.out.1.mono hw2s)
        repeat' (first | exact hbase | refine Below.setCell ?_ (by show _ ≤ w.heap.size + 1 + 1; omega) _)
end Go.Proofs.YtfgefjpgmfjmjaaGreatDoor
