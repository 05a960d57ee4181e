/- TopBands: the loop over the bands (printed by tools/bandsloop.py). Conditions: a depth of at most three. | TopBands: the loop that proves each key (printed by tools/bandspro.py). Conditions: trees that hold the same, the keys among them. | Package band: Nodes. Conditions: a tree of few short texts, a depth of at most three. | TopBands: the walk, joined (printed by tools/bands.py). Conditions: none. | A slice of structs of two texts, opened. Conditions: none of a program. | What a law's arguments look like, opened: arrays of bytes, slices of numbers. Conditions: none of a program. -/
import Derived.Test.YtcgkomafaepjnaaGreatDoorTB15
import Derived.Test.YtcgkomafaepjnaaGreatDoorTB6
import Derived.Test.YtcgkomafaepjnaaGreatDoorTB7
import Derived.Test.YtcgkomafaepjnaaGreatDoorTB14
import Derived.Deep.Slices
import Derived.Deep.MidRow
import Derived.ProofKit
import Derived.OpenShut
import Derived.Test.YtcgkomafaepjnaaGreatDoorTB1
import Derived.ShutString
import Derived.ChangeOld
import Derived.Below
import Derived.Carry
namespace Go.Proofs.YtcgkomafaepjnaaGreatDoor
open Go.RowKit

set_option maxRecDepth 100000 in
set_option maxHeartbeats 8000000 in
theorem bands_loop (a : Option Addr) (n c d p b G N cN R K : Nat) (l : List (ByteArray × ByteArray)) (m : Puts) (w0 w : World) (Q : Exit → Act → World → Prop) {v0 v2 v3 v4 v5 v6 v9 v10 v12 v14 v15 v16 v17 v18 v19 v20 v21 v22 v23 v24 v25 v26 v27 v28 v29 v30 v31 v32 v33 v34 v35 v36 v37 v38 v39 v40 v41 v42 v43 v44 v45 v46 v47 v48 v49 v50 v51 v52 v53 v54 v55 v56 v57 v58 v59 v60 v61 v62 v63 v64 v65 v66 v67 v68 v69 v70 v71 v72 v73 v74 v75 v76 v77 v78 v79 v80 v81 v82 v83 v84 v85 v86 v87 v88 v89 v90 v91 v92 v93 v94 v95 v96 v97 v98 v99 v100 v101 v102 v103 v104 v105 v106 v107 v108 v109 v110 v111 v112 v113 v114 v115 v116 v117 v118 v119 v120 v121 v122 v123 v124 v125 v126 v127 v128 v129 v130 v131 v132 v133 v134 v135 v136 v137 v138 v139 v140 v141 v142 v143 v144 v145 v146 v147 v148 v149 v150 v151 v152 v153 v154 v155 v156 v157 v158 v159 v160 v161 v162 v163 v164 v165 v166 v167 v168 v169 v170 v171 v172 v173 v174 v175 v176 v177 v178 v179 v180 v181 v182 v183 v184 v185 v186 v187 v188 v189 v190 v191 v192 v193 v194 v195 v196 v197 v198 v199 v200 v201 v202 v203 v204 v205 v206 v207 v208 v209 v210 v211 v212 v213 v214 v215 v216 v217 v218 v219 v220 v221 v222 v223 v224 v225 v226 v227 v228 v229 v230 v231 v232 v233 v234 v235 v236 v237 v238 v239 v240 v241 v242 v243 v244 v245 v246 v247 v248 v249 v250 v251 v252 v253 v254 v255 v256 v257 v258 v259 v260 v261 v262 v263 v264 v265 v266 v267 v268 v269 v270 v271 v272 v273 v274 v275 v276 v277 v278 v279 v280 v281 v282 : Value} (hK : Kon w0) (hp : PutsAt w0 a n l) (hB : Below w0.heap.size w0 w) (hd : d ≤ 3) (hN : 2 ^ d = N) (hKn : K = min n 8)
    (ht : TreeAt w p b m) (hm : m.length ≤ 8) (hrow : w.ownsRow R 9 1 (.slice (some ⟨G, 0, none⟩) N cN) N ((hs.level (m) d).map encStr)) (hG0 : w0.heap.size ≤ G)
    (hQ : ∀ (u6 u14 u15 u16 u17 u18 u19 u85 u86 u87 u88 u89 u90 u91 u92 u93 u94 u95 u96 u97 u98 u99 u100 u101 u102 u103 u104 u105 u106 u107 u108 u109 u110 u111 u112 u113 u114 u115 u116 u117 u118 u119 u120 u121 u122 u123 u124 u125 u126 u127 u128 u129 u130 u131 u132 u133 u134 u135 u136 u137 u138 u139 u140 u141 u142 u143 u144 u145 u146 u147 u148 u149 u150 u151 u152 u153 u154 u155 u156 u157 u158 u159 u160 u161 u162 u163 u164 u165 u166 u167 u168 u169 : Value) (p' b' : Nat) (W : World), TreeAt W p' b' (upto (putsOf l K) d m N) → W.ownsRow R 9 1 (.slice (some ⟨G, 0, none⟩) N cN) N ((hs.level (upto (putsOf l K) d m N) d).map encStr) → Touch (· = G) w W → (∀ x, x < w.heap.size → x ≠ b → x ≠ b') → Q (.exit 2) { tmps := #[v0, .slice a n c, v2, v3, v4, v5, u6, .int .i64 (d : Int), .pointer (some ⟨p', 0, none⟩), v9, v10, .slice (some ⟨G, 0, none⟩) N cN, v12, .int .i64 (N : Int), u14, u15, u16, u17, u18, u19, v20, v21, v22, v23, v24, v25, v26, v27, v28, v29, v30, v31, v32, v33, v34, v35, v36, v37, v38, v39, v40, v41, v42, v43, v44, v45, v46, v47, v48, v49, v50, v51, v52, v53, v54, v55, v56, v57, v58, v59, v60, v61, v62, v63, v64, v65, v66, v67, v68, v69, v70, v71, v72, v73, v74, v75, v76, v77, v78, v79, v80, v81, v82, v83, v84, u85, u86, u87, u88, u89, u90, u91, u92, u93, u94, u95, u96, u97, u98, u99, u100, u101, u102, u103, u104, u105, u106, u107, u108, u109, u110, u111, u112, u113, u114, u115, u116, u117, u118, u119, u120, u121, u122, u123, u124, u125, u126, u127, u128, u129, u130, u131, u132, u133, u134, u135, u136, u137, u138, u139, u140, u141, u142, u143, u144, u145, u146, u147, u148, u149, u150, u151, u152, u153, u154, u155, u156, u157, u158, u159, u160, u161, u162, u163, u164, u165, u166, u167, u168, u169, v170, v171, v172, v173, v174, v175, v176, v177, v178, v179, v180, v181, v182, v183, v184, v185, v186, v187, v188, v189, v190, v191, v192, v193, v194, v195, v196, v197, v198, v199, v200, v201, v202, v203, v204, v205, v206, v207, v208, v209, v210, v211, v212, v213, v214, v215, v216, v217, v218, v219, v220, v221, v222, v223, v224, v225, v226, v227, v228, v229, v230, v231, v232, v233, v234, v235, v236, v237, v238, v239, v240, v241, v242, v243, v244, v245, v246, v247, v248, v249, v250, v251, v252, v253, v254, v255, v256, v257, v258, v259, v260, v261, v262, v263, v264, v265, v266, v267, v268, v269, v270, v271, v272, v273, v274, v275, v276, v277, v278, v279, v280, v281, v282], defers := [] } W) :
    ((cdB (cdR (cdL (cdR (cdR (cdR (cdR (cdR (cdR (cdR (cdR (cdOf Tryz.f3.body))))))))))))).wp Tryz.prog Q { tmps := #[v0, .slice a n c, v2, v3, v4, v5, v6, .int .i64 (d : Int), .pointer (some ⟨p, 0, none⟩), v9, v10, .slice (some ⟨G, 0, none⟩) N cN, v12, .int .i64 0, v14, v15, v16, v17, v18, v19, v20, v21, v22, v23, v24, v25, v26, v27, v28, v29, v30, v31, v32, v33, v34, v35, v36, v37, v38, v39, v40, v41, v42, v43, v44, v45, v46, v47, v48, v49, v50, v51, v52, v53, v54, v55, v56, v57, v58, v59, v60, v61, v62, v63, v64, v65, v66, v67, v68, v69, v70, v71, v72, v73, v74, v75, v76, v77, v78, v79, v80, v81, v82, v83, v84, v85, v86, v87, v88, v89, v90, v91, v92, v93, v94, v95, v96, v97, v98, v99, v100, v101, v102, v103, v104, v105, v106, v107, v108, v109, v110, v111, v112, v113, v114, v115, v116, v117, v118, v119, v120, v121, v122, v123, v124, v125, v126, v127, v128, v129, v130, v131, v132, v133, v134, v135, v136, v137, v138, v139, v140, v141, v142, v143, v144, v145, v146, v147, v148, v149, v150, v151, v152, v153, v154, v155, v156, v157, v158, v159, v160, v161, v162, v163, v164, v165, v166, v167, v168, v169, v170, v171, v172, v173, v174, v175, v176, v177, v178, v179, v180, v181, v182, v183, v184, v185, v186, v187, v188, v189, v190, v191, v192, v193, v194, v195, v196, v197, v198, v199, v200, v201, v202, v203, v204, v205, v206, v207, v208, v209, v210, v211, v212, v213, v214, v215, v216, v217, v218, v219, v220, v221, v222, v223, v224, v225, v226, v227, v228, v229, v230, v231, v232, v233, v234, v235, v236, v237, v238, v239, v240, v241, v242, v243, v244, v245, v246, v247, v248, v249, v250, v251, v252, v253, v254, v255, v256, v257, v258, v259, v260, v261, v262, v263, v264, v265, v266, v267, v268, v269, v270, v271, v272, v273, v274, v275, v276, v277, v278, v279, v280, v281, v282], defers := [] } w := by
  have HK := Lib.hid hK
  have HP := Lib.hid hp
  have HQ := Lib.hid hQ
  have HT := Lib.hid ht
  have HR := Lib.hid hrow
  have HN := Lib.hid hN
  have HKn := Lib.hid hKn
  have hGl := (hrow.lt G rfl).2
  have s0 := hB.size
  have hcnt := Lib.hid (fun W => bcount_any d W hd)
  rw [hN] at hcnt
  have hN8 : N ≤ 8 := by
    have := Nat.pow_le_pow_right (n := 2) (by decide) hd
    omega
  clear hK hp hQ ht hrow hN hKn
  simp only [cdL, cdR, cdB, cdOf, Tryz.f3]
  go_loopw [8, 13] (fun v i W => ∃ bn p b1 : Nat, bn ≤ N ∧ v = .pointer (some ⟨p, 0, none⟩) ∧ i = .int .i64 (bn : Int) ∧ TreeAt W p b1 (upto (putsOf l K) d m bn) ∧ W.ownsRow R 9 1 (.slice (some ⟨G, 0, none⟩) N cN) N ((hs.level (upto (putsOf l K) d m bn) d).map encStr) ∧ Touch (· = G) w W ∧ (∀ x, x < w.heap.size → x ≠ b → x ≠ b1)) (fun _ i _ => N - (intOf i).toNat)
  case atStart => exact ⟨0, p, b, Nat.zero_le _, rfl, rfl, HT.out, HR.out, Touch.refl _ _, fun _ _ h => h⟩
  case round =>
    obtain ⟨bn, p, b1, hbN, rfl, rfl, ht, hrow, hT, hfr⟩ := hrel
    have Hfr := Lib.hid hfr
    clear hfr
    by_cases hlt : bn < N
    · have hlt' : (bn : Int) < (N : Int) := by omega
      have hwr : Below w0.heap.size w0 wr := hB.trans (hT.below (B := w0.heap.size) (by rintro i rfl; exact hG0) s0)
      have swr := hT.size
      have htl := ht.lt
      obtain ⟨mm, hmm⟩ : ∃ mm, mm = upto (putsOf l K) d m bn := ⟨_, rfl⟩
      have hmml : mm.length ≤ 72 := by
        have h1 := upto_length (putsOf l K) m d bn
        have h2 := putsOf_length l K
        have h4 := HKn.out
        have h3 : bn * (putsOf l K).length ≤ 8 * 8 := Nat.mul_le_mul (by omega) (by omega)
        rw [hmm]; omega
      rw [← hmm] at ht hrow
      have Hmm := Lib.hid hmm
      clear hmm
      have HT := Lib.hid ht
      have HR := Lib.hid hrow
      have HTo := Lib.hid hT
      have Hwr := Lib.hid hwr
      clear ht hrow hT hwr
      go_wp2_with fail
      refine (hcnt.out wr).mono ?_
      rintro e wr ⟨rfl, rfl⟩
      go_wp2_with fail
      refine gather a n c bn d l w0 _ _ HK.out HP.out Hwr.out hd ?_
      intro g16 g91 g92 g93 g94 g95 g96 g97 g98 g99 g100 g101 g102 g103 g104 g105 g106 g107 g108 g109 g110 g111 g112 g113 g114 g115 g116 g117 g118 g119 g120 g121 g122 g123 g124 g125 g126 g127 g128 g129 g130 g131 g132 g133 g134 g135 g136 g137 g138 K' J c4 a4 W hK' hJ ho hb
      obtain rfl : K' = K := by have := HKn.out; omega
      obtain ⟨cs, hcs⟩ : ∃ cs, cs = ofBand (putsOf l K') d bn := ⟨_, rfl⟩
      rw [← hcs] at hJ ho
      have hcsm : ∀ q ∈ cs, q.1.length = 16 ∧ q.2.length ≤ 1000 ∧ bandTo q.1 d = bn := fun q hq => ofBand_mem (hcs ▸ hq)
      have hcs8 : cs.length ≤ 8 := by
        have := ofBand_few l K' d bn
        have := HKn.out
        rw [hcs]; omega
      have hcr := chrow_of_own ho hJ
      have hW : Below w0.heap.size w0 W := Hwr.out.trans (hb.mono Hwr.out.size)
      have hmake := Lib.hid (make_any p b1 mm bn d a4 c4 J cs W (HT.out.old hb) (HK.out.old hW) hJ.symm hcr hd (by rw [HN.out]; exact hlt) (by omega) (by omega) hcsm)
      have Hb := Lib.hid hb
      have HW := Lib.hid hW
      have HJ := Lib.hid hJ
      have Hcs := Lib.hid hcs
      have Hcsm := Lib.hid hcsm
      clear hcnt hb hW hJ hcs hcr ho hcsm
      go_wp2_with fail
      refine hmake.out.mono ?_
      clear hmake
      rintro e W3 ⟨sa, sc, sl, p3, b3, rfl, ho3, hln, hmap, hch, hrows, ht3, hB3, hb3⟩
      have sW := Hb.out.size
      generalize hold : hs.at (valOf mm) (keysOf mm) (firstP bn d) d = old
      generalize hnew : hs.at (valOf (cs.reverse ++ mm)) (keysOf (cs.reverse ++ mm)) (firstP bn d) d = nw
      have Hold := Lib.hid hold
      have Hnew := Lib.hid hnew
      have Hst := Lib.hid (And.intro ho3 (And.intro hln (And.intro hmap (And.intro hch (And.intro hrows ht3)))))
      have HB3 := Lib.hid hB3
      clear hold hnew ho3 hln hmap hch hrows ht3 hB3
      obtain ⟨W4, hW4⟩ : ∃ W4, W4 = W3.alloc (.cells #[.int .i64 (bn : Int), .int .i64 (d : Int), .string ⟨old.toArray⟩, .string ⟨nw.toArray⟩, .slice sa J sc] 41) := ⟨_, rfl⟩
      have hB4 : Below W3.heap.size W3 W4 := by rw [hW4]; exact (Below.refl _ _).alloc (Nat.le_refl _) _
      have hs4 : W4.heap.size = W3.heap.size + 1 := by rw [hW4]; simp
      have x4 : W4.heap[W3.heap.size]? = some (.cells #[.int .i64 (bn : Int), .int .i64 (d : Int), .string ⟨old.toArray⟩, .string ⟨nw.toArray⟩, .slice sa J sc] 41 (0, 0)) := by rw [hW4]; exact heap_alloc_new _ _
      have bwr : Below wr.heap.size wr W4 := Hb.out.trans ((HB3.out.trans (hB4.mono HB3.out.size)).mono Hb.out.size)
      have hrow4 : W4.ownsRow R 9 1 (.slice (some ⟨G, 0, none⟩) N cN) N ((hs.level mm d).map encStr) := (Touch.of_below bwr (fun _ => False)).own HR.out (fun _ _ h => h)
      have hadd : (⟨G, 0, none⟩ : Addr).add bn = ⟨G, bn, none⟩ := by unfold Addr.add; split <;> simp_all
      have hlev : (hs.level mm d)[bn]? = some old := by
        have h1 := level_at hs mm d bn (by rw [HN.out]; exact hlt)
        rw [Hold.out, List.getD_eq_getElem?_getD] at h1
        have h2 : bn < (hs.level mm d).length := by rw [level_length, HN.out]; exact hlt
        rw [List.getElem?_eq_getElem h2] at h1 ⊢
        exact congrArg some h1
      have hn4 : W4.cell? ⟨G, bn, none⟩ = some (.string ⟨old.toArray⟩) := by
        have := hrow4.cells (g := G) rfl bn (.string ⟨old.toArray⟩) (by rw [List.getElem?_map, hlev]; rfl)
        rwa [hadd] at this
      have hK4 : Kon W4 := (HK.out.old Hwr.out).old bwr
      have hcheck : Calls Tryz.prog 15 #[.agg #[.int .i64 (bn : Int), .int .i64 (d : Int), .string ⟨old.toArray⟩, .string ⟨nw.toArray⟩, .slice sa J sc]] W4.drew fun e w' => e = .returned (.int .i64 0) ∧ Below W4.drew.heap.size W4.drew w' := by
        obtain ⟨⟨R3, ho3⟩, hln, hmap, hch, hrows, ht3⟩ := Hst.out
        have hB4' : Below W3.heap.size W3 W4.drew := hB4.drew
        have := check_any mm bn d J sc sa sl cs W4.drew (hK4.old ((Below.refl _ _).drew)) ⟨R3, (Touch.of_below hB4' (fun _ => False)).own ho3 (fun _ _ h => h)⟩ hln hmap hch (fun s hs => (hrows s hs).old hB4') hd (by rw [HN.out]; exact hlt) (by have := HJ.out; omega) HT.out.small Hcsm.out
        rw [nowAt_zero, Hold.out, nowAt_end mm sl cs bn d J hln hmap, Hnew.out] at this
        exact this
      have Hcheck := Lib.hid hcheck
      have Hrow4 := Lib.hid hrow4
      have Hbwr := Lib.hid bwr
      have hGlt : G < W4.heap.size := (hrow4.lt G rfl).2
      have hXlt : W3.heap.size < W4.heap.size := by omega
      have Hx4 := Lib.hid x4
      have HS : Hid (∀ W', Below W4.heap.size W4 W' → W'.cell? ⟨W3.heap.size, 0, none⟩ = some (.int .i64 (bn : Int)) ∧ W'.cell? ⟨W3.heap.size, 1, none⟩ = some (.int .i64 (d : Int)) ∧ W'.cell? ⟨W3.heap.size, 2, none⟩ = some (.string ⟨old.toArray⟩) ∧ W'.cell? ⟨W3.heap.size, 3, none⟩ = some (.string ⟨nw.toArray⟩) ∧ W'.cell? ⟨W3.heap.size, 4, none⟩ = some (.slice sa J sc) ∧ W'.cell? ⟨G, bn, none⟩ = some (.string ⟨old.toArray⟩)) := Lib.hid fun W' hb' => by
        obtain ⟨q0, q1, q2, q3, q4⟩ := five_of_cells ((hb'.block _ hXlt).trans x4)
        exact ⟨q0, q1, q2, q3, q4, (hb'.cell (p := ⟨G, bn, none⟩) hGlt).trans hn4⟩
      have hS0 := Lib.hid (HS.out W4.drew ((Below.refl _ _).drew))
      have hS1 := Lib.hid (fun w5 (hb5 : Below W4.drew.heap.size W4.drew w5) => HS.out w5 (below_call0 hb5))
      have h0bn : (0 : Int) ≤ (bn : Int) := by omega
      have HB4 := Lib.hid hB4
      clear hB4 x4 bwr hrow4 hlev hn4 hK4 hcheck
      go_wp2_with fail
      rw [← hW4]
      clear hW4
      go_region_held3 (fun W' => W'.cell? ⟨W3.heap.size, 0, none⟩ = some (.int .i64 (bn : Int)) ∧ W'.cell? ⟨W3.heap.size, 1, none⟩ = some (.int .i64 (d : Int)) ∧ W'.cell? ⟨W3.heap.size, 2, none⟩ = some (.string ⟨old.toArray⟩) ∧ W'.cell? ⟨W3.heap.size, 3, none⟩ = some (.string ⟨nw.toArray⟩) ∧ W'.cell? ⟨W3.heap.size, 4, none⟩ = some (.slice sa J sc) ∧ W'.cell? ⟨G, bn, none⟩ = some (.string ⟨old.toArray⟩)) (first | exact hS0.out | exact hS1.out _ (by assumption))
        (first
          | (go_at_call 15; with_reducible refine Hcheck.out.mono ?_; rintro e w5 ⟨rfl, hb5⟩))
      rename_i hHeld
      clear hHeld hS0 hS1
      have hb5' := below_call0 hb5
      have Hb5 := Lib.hid hb5'
      obtain ⟨q0, q1, q2, q3, q4, q5⟩ := HS.out w5 hb5'
      have hrow5 := (Touch.of_below hb5' (fun _ => False)).own Hrow4.out (fun _ _ h => h)
      have hfz := hrow5.frozenAt bn
      have Hrow5 := Lib.hid hrow5
      clear hrow5 hb5 hb5'
      go_wp2
      have hB35 : Below W3.heap.size W3 w5 := (HB4.out).trans (Hb5.out.mono HB4.out.size)
      have ht5 := Hst.out.2.2.2.2.2.old hB35
      obtain ⟨hne1, hne2⟩ := tree_ne_row ht5 Hrow5.out
      obtain ⟨hst5, hgr5⟩ := Hrow5.out.stored bn (.string ⟨nw.toArray⟩)
      have TG : Touch (· = G) w5 (w5.setCell ⟨G, bn, none⟩ (.string ⟨nw.toArray⟩)) := Touch.setCell (S := (· = G)) w5 ⟨G, bn, none⟩ _ rfl
      have eup : upto (putsOf l K') d m (bn + 1) = cs.reverse ++ mm := by rw [upto, ← Hmm.out, ← Hcs.out]
      refine ⟨⟨bn + 1, p3, b3, by omega, rfl, by go_num, ?_, ?_, (HTo.out.trans (Touch.of_below (Hbwr.out.trans (Hb5.out.mono Hbwr.out.size)) _)).trans TG, fun x hx _ => by omega⟩, by simp [intOf]; omega⟩
      · rw [eup]
        exact ht5.touch TG hne1 hne2
      · rw [level_step (putsOf l K') m d bn (by omega), encStr_set, eup, Hnew.out, ← Hmm.out]
        exact hst5
    · obtain rfl : bn = N := by omega
      go_wp2_with fail
      refine (hcnt.out wr).mono ?_
      rintro e wr ⟨rfl, rfl⟩
      go_wp2
      exact HQ.out _ _ _ _ _ _ _ _ _ _ _ _ _ _ _ _ _ _ _ _ _ _ _ _ _ _ _ _ _ _ _ _ _ _ _ _ _ _ _ _ _ _ _ _ _ _ _ _ _ _ _ _ _ _ _ _ _ _ _ _ _ _ _ _ _ _ _ _ _ _ _ _ _ _ _ _ _ _ _ _ _ _ _ _ _ _ _ _ _ _ _ _ p b1 _ ht hrow hT Hfr.out

end Go.Proofs.YtcgkomafaepjnaaGreatDoor
namespace Go.Proofs.YtcgkomafaepjnaaGreatDoor
open Go.RowKit

set_option maxRecDepth 100000 in
set_option maxHeartbeats 8000000 in
theorem prove_loop (a : Option Addr) (n c p b pw bw : Nat) (root : Tx) (l : List (ByteArray × ByteArray)) (mt mw : Puts) (w0 w : World) (Q : Exit → Act → World → Prop) {v0 v2 v3 v4 v5 v6 v7 v9 v11 v12 v13 v14 v15 v16 v17 v18 v19 v20 v22 v24 v25 v26 v27 v28 v29 v30 v31 v32 v33 v34 v35 v36 v37 v38 v39 v40 v41 v42 v43 v44 v45 v46 v47 v48 v49 v50 v51 v52 v53 v54 v55 v56 v57 v58 v59 v60 v61 v62 v63 v64 v65 v66 v67 v68 v69 v70 v71 v72 v73 v74 v75 v76 v77 v78 v79 v80 v81 v82 v83 v84 v85 v86 v87 v88 v89 v90 v91 v92 v93 v94 v95 v96 v97 v98 v99 v100 v101 v102 v103 v104 v105 v106 v107 v108 v109 v110 v111 v112 v113 v114 v115 v116 v117 v118 v119 v120 v121 v122 v123 v124 v125 v126 v127 v128 v129 v130 v131 v132 v133 v134 v135 v136 v137 v138 v139 v140 v141 v142 v143 v144 v145 v146 v147 v148 v149 v150 v151 v152 v153 v154 v155 v156 v157 v158 v159 v160 v161 v162 v163 v164 v165 v166 v167 v168 v169 v170 v171 v172 v173 v174 v175 v176 v177 v178 v179 v180 v181 v182 v183 v184 v185 v186 v187 v188 v189 v190 v191 v192 v193 v194 v195 v196 v197 v198 v199 v200 v201 v202 v203 v204 v205 v206 v207 v208 v209 v210 v211 v212 v213 v214 v215 v216 v217 v218 v219 v220 v221 v222 v223 v224 v225 v226 v227 v228 v229 v230 v231 v232 v233 v234 v235 v236 v237 v238 v239 v240 v241 v242 v243 v244 v245 v246 v247 v248 v249 v250 v251 v252 v253 v254 v255 v256 v257 v258 v259 v260 v261 v262 v263 v264 v265 v266 v267 v268 v269 v270 v271 v272 v273 v274 v275 v276 v277 v278 v279 v280 v281 v282 : Value} (hK : Kon w0) (hp : PutsAt w0 a n l) (hB : Below w0.heap.size w0 w)
    (ht : TreeAt w p b mt) (htw : TreeAt w pw bw mw) (hv : valOf mt = valOf mw) (hin : ∀ k (h : k < l.length), k < 8 → keyB (l[k]).1 ∈ keysOf mt) (hroot : root = hs.at (valOf mt) (keysOf mt) [] 0)
    (hQ : ∀ (u6 u24 u25 u26 u27 u28 u230 u231 u232 u233 u234 u235 u236 u237 u238 u239 u240 u241 u242 u243 u244 u245 u246 u247 u248 u249 u250 u251 u252 u253 u254 u255 u256 u257 u258 u259 u260 u261 u262 u263 u264 u265 u266 u267 u268 u269 u270 u271 u272 u273 u274 u275 u276 u277 u278 u279 u280 u281 u282 : Value) (K : Nat) (W : World), Below w.heap.size w W → Q (.exit 8) { tmps := #[v0, .slice a n c, v2, v3, v4, v5, u6, v7, .pointer (some ⟨p, 0, none⟩), v9, .pointer (some ⟨pw, 0, none⟩), v11, v12, v13, v14, v15, v16, v17, v18, v19, v20, .string ⟨root.toArray⟩, v22, .int .i64 (K : Int), u24, u25, u26, u27, u28, v29, v30, v31, v32, v33, v34, v35, v36, v37, v38, v39, v40, v41, v42, v43, v44, v45, v46, v47, v48, v49, v50, v51, v52, v53, v54, v55, v56, v57, v58, v59, v60, v61, v62, v63, v64, v65, v66, v67, v68, v69, v70, v71, v72, v73, v74, v75, v76, v77, v78, v79, v80, v81, v82, v83, v84, v85, v86, v87, v88, v89, v90, v91, v92, v93, v94, v95, v96, v97, v98, v99, v100, v101, v102, v103, v104, v105, v106, v107, v108, v109, v110, v111, v112, v113, v114, v115, v116, v117, v118, v119, v120, v121, v122, v123, v124, v125, v126, v127, v128, v129, v130, v131, v132, v133, v134, v135, v136, v137, v138, v139, v140, v141, v142, v143, v144, v145, v146, v147, v148, v149, v150, v151, v152, v153, v154, v155, v156, v157, v158, v159, v160, v161, v162, v163, v164, v165, v166, v167, v168, v169, v170, v171, v172, v173, v174, v175, v176, v177, v178, v179, v180, v181, v182, v183, v184, v185, v186, v187, v188, v189, v190, v191, v192, v193, v194, v195, v196, v197, v198, v199, v200, v201, v202, v203, v204, v205, v206, v207, v208, v209, v210, v211, v212, v213, v214, v215, v216, v217, v218, v219, v220, v221, v222, v223, v224, v225, v226, v227, v228, v229, u230, u231, u232, u233, u234, u235, u236, u237, u238, u239, u240, u241, u242, u243, u244, u245, u246, u247, u248, u249, u250, u251, u252, u253, u254, u255, u256, u257, u258, u259, u260, u261, u262, u263, u264, u265, u266, u267, u268, u269, u270, u271, u272, u273, u274, u275, u276, u277, u278, u279, u280, u281, u282], defers := [] } W) :
    (cdB (cdR (cdL (cdR (cdR (cdR (cdR (cdR (cdR (cdR (cdR (cdR (cdR (cdR (cdR (cdOf Tryz.f3.body)))))))))))))))).wp Tryz.prog Q { tmps := #[v0, .slice a n c, v2, v3, v4, v5, v6, v7, .pointer (some ⟨p, 0, none⟩), v9, .pointer (some ⟨pw, 0, none⟩), v11, v12, v13, v14, v15, v16, v17, v18, v19, v20, .string ⟨root.toArray⟩, v22, .int .i64 0, v24, v25, v26, v27, v28, v29, v30, v31, v32, v33, v34, v35, v36, v37, v38, v39, v40, v41, v42, v43, v44, v45, v46, v47, v48, v49, v50, v51, v52, v53, v54, v55, v56, v57, v58, v59, v60, v61, v62, v63, v64, v65, v66, v67, v68, v69, v70, v71, v72, v73, v74, v75, v76, v77, v78, v79, v80, v81, v82, v83, v84, v85, v86, v87, v88, v89, v90, v91, v92, v93, v94, v95, v96, v97, v98, v99, v100, v101, v102, v103, v104, v105, v106, v107, v108, v109, v110, v111, v112, v113, v114, v115, v116, v117, v118, v119, v120, v121, v122, v123, v124, v125, v126, v127, v128, v129, v130, v131, v132, v133, v134, v135, v136, v137, v138, v139, v140, v141, v142, v143, v144, v145, v146, v147, v148, v149, v150, v151, v152, v153, v154, v155, v156, v157, v158, v159, v160, v161, v162, v163, v164, v165, v166, v167, v168, v169, v170, v171, v172, v173, v174, v175, v176, v177, v178, v179, v180, v181, v182, v183, v184, v185, v186, v187, v188, v189, v190, v191, v192, v193, v194, v195, v196, v197, v198, v199, v200, v201, v202, v203, v204, v205, v206, v207, v208, v209, v210, v211, v212, v213, v214, v215, v216, v217, v218, v219, v220, v221, v222, v223, v224, v225, v226, v227, v228, v229, v230, v231, v232, v233, v234, v235, v236, v237, v238, v239, v240, v241, v242, v243, v244, v245, v246, v247, v248, v249, v250, v251, v252, v253, v254, v255, v256, v257, v258, v259, v260, v261, v262, v263, v264, v265, v266, v267, v268, v269, v270, v271, v272, v273, v274, v275, v276, v277, v278, v279, v280, v281, v282], defers := [] } w := by
  have HK := Lib.hid hK
  have HP := Lib.hid hp
  have HQ := Lib.hid hQ
  have HT := Lib.hid ht
  have HTW := Lib.hid htw
  have HV := Lib.hid hv
  have HIN := Lib.hid hin
  have HRT := Lib.hid hroot
  have hkeys := Lib.hid (keys_keysOf (m := mt) fun q hq => (ht.small q hq).1)
  have hsm := Lib.hid (ht.small)
  have s0 := hB.size
  clear hK hp hQ ht htw hv hin hroot
  simp only [cdL, cdR, cdB, cdOf, Tryz.f3]
  go_loopw [23] (fun i W => ∃ k : Nat, k ≤ n ∧ k ≤ 8 ∧ i = .int .i64 (k : Int) ∧ Below w.heap.size w W) (fun i _ => n - (intOf i).toNat)
  case atStart => exact ⟨0, Nat.zero_le _, Nat.zero_le _, rfl, Below.refl _ _⟩
  case round =>
    obtain ⟨k, hk, hk8, rfl, hb⟩ := hrel
    by_cases h1 : k < n
    · have h1' : (k : Int) < (n : Int) := by omega
      by_cases h2 : k < 8
      · have h2' : (k : Int) < 8 := by omega
        have hkl : k < l.length := by rw [HP.out.len]; exact h1
        have swr := hb.size
        have hwr : Below w0.heap.size w0 wr := hB.trans (hb.mono s0)
        obtain ⟨g, o, rfl, hg, hc1, _⟩ := HP.out.cell k hkl
        have hc1 := (hwr.cell (p := ⟨g, o + k * 2, none⟩) hg).trans hc1
        obtain ⟨nm, hnm⟩ : ∃ nm, nm = (l[k]).1 := ⟨_, rfl⟩
        rw [← hnm] at hc1
        have hkin : keyB nm ∈ keysOf mt := by rw [hnm]; exact HIN.out k hkl h2
        clear hnm
        obtain ⟨q, hq⟩ : ∃ q, q = min nm.size 20 := ⟨_, rfl⟩
        have hcn : cutB nm = nm.extract 0 q := by rw [hq]; rfl
        have hqm : (if (20 : Int) < (nm.size : Int) then (20 : Int) else (nm.size : Int)) = (q : Int) := by split <;> omega
        have hmq : ∀ (W : World) (ts : Array TypeId) (t : TypeId), (Builtin.min_ ts t #[.int .i64 (nm.size : Int), .int .i64 20]).run Tryz.prog W = .ok (.int .i64 (q : Int)) W := fun W ts t => by rw [run_min_int2, hqm]
        have hq0 : (0 : Int) ≤ (q : Int) := by omega
        have hq1 : (q : Int) ≤ (nm.size : Int) := by omega
        clear hq
        have hslq : ∀ W, (Instr.slice 9 (.string nm) none (some (.int .i64 (q : Int))) none).run Tryz.prog W = .ok (.string (nm.extract 0 q)) W := fun W => by go_simp
        have sn := cutB_size nm
        have kl16 := keyB_length nm
        have hkey : keyB nm = tagOf 1 [(nm.extract 0 q).data.toList] := by unfold keyB; rw [hcn]
        rw [hcn] at sn
        have htg := Lib.hid (tagged_one 1 (nm.extract 0 q) wr.drew (by decide) (by omega) (HK.out.old hwr.drew))
        rw [← hkey] at htg
        generalize keyB nm = kk at htg kl16 hkin
        have htg : Hid (Calls Tryz.prog 9 #[.int .u8 1, .slice (some ⟨wr.heap.size, 0, none⟩) 1 1] ((wr.alloc (.cells #[.string (nm.extract 0 q)] 9)).drew) fun e w' => e = .returned (.string ⟨kk.toArray⟩) ∧ Below wr.drew.heap.size wr.drew w') := htg
        have hgr : g < wr.heap.size := by omega
        have hS0 : Hid (wr.drew.cell? ⟨g, o + k * 2, none⟩ = some (.string nm)) := Lib.hid hc1
        have hS1 := Lib.hid (fun (ob : Obj) => ((((Below.refl wr.drew.heap.size wr.drew).alloc (Nat.le_refl _) ob).cell (p := ⟨g, o + k * 2, none⟩) hgr).trans hS0.out : (wr.alloc ob).drew.cell? ⟨g, o + k * 2, none⟩ = some (.string nm)))
        have hS2 := Lib.hid (fun w5 (hb : Below wr.drew.heap.size wr.drew w5) => ((hb.cell (p := ⟨g, o + k * 2, none⟩) hgr).trans hS0.out : w5.cell? ⟨g, o + k * 2, none⟩ = some (.string nm)))
        have Hkin := Lib.hid hkin
        have Hb := Lib.hid hb
        have Hwr := Lib.hid hwr
        clear hc1 hcn hkey sn hb hwr hkin
        go_wp2_with fail
        go_region_held3 (fun W' => W'.cell? ⟨g, o + k * 2, none⟩ = some (.string nm)) (first | exact hS0.out | exact hS1.out _ | exact hS2.out _ (by assumption))
          (first
            | (go_at_call 9; with_reducible refine htg.out.mono ?_; rintro e w5 ⟨rfl, hb5⟩))
        rename_i hHeld
        have hb5' := below_call0 hb5
        clear hS0 hS1 hS2 hb5 hHeld htg hmq hslq
        have hw5 : Below w.heap.size w w5 := Hb.out.trans (hb5'.mono swr)
        have hw05 : Below w0.heap.size w0 w5 := hB.trans (hw5.mono s0)
        have hget := Lib.hid (tget_any pw bw mw ⟨kk.toArray⟩ w5 (HTW.out.old hw5) (by show kk.toArray.size = 16; rw [List.size_toArray, kl16]))
        have hget : Hid (Calls Tryz.prog 18 #[.pointer (some ⟨pw, 0, none⟩), .string ⟨kk.toArray⟩] w5 fun e w' => e = .returned (.tuple #[.string ⟨(valOf mw kk).toArray⟩, .bool (mw.lookup kk).isSome]) ∧ w5 = w') := hget
        rw [← HV.out] at hget
        have hpr := Lib.hid (pprove_any p b mt kk 0 w5 (HT.out.old hw5) (HK.out.old hw05) kl16 (by decide))
        have Hw5 := Lib.hid hw5
        have Hw05 := Lib.hid hw05
        clear hb5' hw5 hw05
        go_wp2_with fail
        refine hget.out.mono ?_
        rintro e w6 ⟨rfl, rfl⟩
        clear hget
        go_wp2_with fail
        refine hpr.out.mono ?_
        rintro e w4 ⟨a4, c4, pf, n4, rfl, hr4, hmade, hB4, hl4⟩
        clear hpr
        obtain ⟨hth, hpk, hpv⟩ := made_there hmade Hkin.out
        have hgood := hmade.good hkeys.out
        have hroot := made_root hmade
        rw [← HRT.out] at hroot
        have hvl : (valOf mt kk).length ≤ 1000 := valOf_length hsm.out _
        generalize valOf mt kk = vv at hpv hvl
        obtain ⟨bs, th, pk, pv⟩ := pf
        dsimp only at hth hpk hpv hroot hr4 hgood
        subst hth hpk hpv
        obtain ⟨len, hlen⟩ : ∃ len, bs.length = len := ⟨_, rfl⟩
        obtain ⟨W5, hW5⟩ : ∃ W5, W5 = w4.alloc (.cells #[.slice a4 len c4, .bool true, .string ⟨pk.toArray⟩, .string ⟨pv.toArray⟩] 51) := ⟨_, rfl⟩
        have hB5 : Below w4.heap.size w4 W5 := by rw [hW5]; exact (Below.refl _ _).alloc (Nat.le_refl _) _
        have hrow5 : W5.heap[w4.heap.size]? = some (.cells #[.slice a4 len c4, .bool true, .string ⟨pk.toArray⟩, .string ⟨pv.toArray⟩] 51 (0, 0)) := by rw [hW5]; exact heap_alloc_new _ _
        have hl5 : w4.heap.size < W5.heap.size := by rw [hW5]; simp
        have hBww : Below w.heap.size w W5 := (Hw5.out.trans (hB4.mono Hw5.out.size)).trans (hB5.mono (Hw5.out.trans (hB4.mono Hw5.out.size)).size)
        have hK5 : Kon W5 := ((HK.out.old Hw05.out).old hB4).old hB5
        have hv5 : ∀ W, Below W5.heap.size W5 W → PfAt W (.agg #[.slice a4 len c4, .bool true, .string ⟨pk.toArray⟩, .string ⟨pv.toArray⟩]) ⟨bs, true, pk, pv⟩ := fun W hb => ⟨a4, c4, by rw [← hlen], (hr4.old hB5).old hb⟩
        have cH : Hid (Calls Tryz.prog 20 #[.agg #[.slice a4 len c4, .bool true, .string ⟨pk.toArray⟩, .string ⟨pv.toArray⟩], .string ⟨root.toArray⟩, .string ⟨pk.toArray⟩, .string ⟨pv.toArray⟩, .int .i64 0] W5 fun e w' => e = .returned (.bool true) ∧ Below W5.heap.size W5 w') := Lib.hid (by
          have := phas_any (.agg #[.slice a4 len c4, .bool true, .string ⟨pk.toArray⟩, .string ⟨pv.toArray⟩]) ⟨bs, true, pk, pv⟩ pk 0 W5 (hv5 _ (Below.refl _ _)) hgood hvl hK5 rfl rfl
          rw [← hroot] at this
          exact this)
        have cL : Hid (∀ W, Below W5.heap.size W5 W → Calls Tryz.prog 21 #[.agg #[.slice a4 len c4, .bool true, .string ⟨pk.toArray⟩, .string ⟨pv.toArray⟩], .string ⟨root.toArray⟩, .string ⟨pk.toArray⟩, .int .i64 0] W fun e w' => e = .returned (.bool false) ∧ Below W.heap.size W w') := Lib.hid (fun W hb =>
          placks_any (.agg #[.slice a4 len c4, .bool true, .string ⟨pk.toArray⟩, .string ⟨pv.toArray⟩]) ⟨bs, true, pk, pv⟩ pk root 0 W (hv5 _ hb) hgood rfl rfl)
        have HKeep := Lib.hid (fun (W' : World) (hb : Below W5.heap.size W5 W') => (four_of_cells ((hb.block _ hl5).trans hrow5) : W'.cell? ⟨w4.heap.size, 0, none⟩ = some (.slice a4 len c4) ∧ W'.cell? ⟨w4.heap.size, 1, none⟩ = some (.bool true) ∧ W'.cell? ⟨w4.heap.size, 2, none⟩ = some (.string ⟨pk.toArray⟩) ∧ W'.cell? ⟨w4.heap.size, 3, none⟩ = some (.string ⟨pv.toArray⟩)))
        have HBww := Lib.hid hBww
        rw [hlen]
        clear hroot hmade hgood hr4 hrow5 hv5 hBww hK5 hB5
        go_wp2_with fail
        rw [← hW5]
        clear hW5
        refine cH.out.mono ?_
        rintro e w7 ⟨rfl, hb7⟩
        obtain ⟨q0, q1, q2, q3⟩ := HKeep.out w7 hb7
        have Hb7 := Lib.hid hb7
        clear hb7 cH
        go_wp2_with fail
        refine (cL.out w7 Hb7.out).mono ?_
        rintro e w8 ⟨rfl, hb8⟩
        clear cL q0 q1 q2 q3
        go_wp2
        have hfin : Below W5.heap.size W5 w8 := Hb7.out.trans (hb8.mono Hb7.out.size)
        exact ⟨⟨k + 1, by omega, by omega, by go_num, HBww.out.trans (hfin.mono HBww.out.size)⟩, by simp [intOf]; omega⟩
      · have h2' : ¬ (k : Int) < 8 := by omega
        go_wp2
        exact HQ.out _ _ _ _ _ _ _ _ _ _ _ _ _ _ _ _ _ _ _ _ _ _ _ _ _ _ _ _ _ _ _ _ _ _ _ _ _ _ _ _ _ _ _ _ _ _ _ _ _ _ _ _ _ _ _ _ _ _ _ k _ hb
    · have h1' : ¬ (k : Int) < (n : Int) := by omega
      go_wp2
      exact HQ.out _ _ _ _ _ _ _ _ _ _ _ _ _ _ _ _ _ _ _ _ _ _ _ _ _ _ _ _ _ _ _ _ _ _ _ _ _ _ _ _ _ _ _ _ _ _ _ _ _ _ _ _ _ _ _ _ _ _ _ k _ hb

end Go.Proofs.YtcgkomafaepjnaaGreatDoor
namespace Go.Proofs.YtcgkomafaepjnaaGreatDoor
open Go.RowKit

theorem upto_level (m : Puts) (d k : Nat) (hk : k < 2 ^ d) : ((hs.level m d).take (k + 1)).map encStr = ((hs.level m d).take k).map encStr ++ [.string ⟨(hs.at (valOf m) (keysOf m) (firstP k d) d).toArray⟩] := by
  have hl := level_length hs m d
  rw [List.take_succ_eq_append_getElem (by omega), List.map_append, List.map_singleton]
  have := level_at hs m d k hk
  rw [List.getD_eq_getElem?_getD, List.getElem?_eq_getElem (by omega)] at this
  simp only [Option.getD_some] at this
  rw [this]

set_option maxRecDepth 100000 in
set_option maxHeartbeats 4000000 in
theorem bnodes_any (p b : Nat) (m : Puts) (d : Nat) (w : World) (h : TreeAt w p b m) (hK : Kon w) (hd : d ≤ 3) :
    Calls Tryz.prog 11 #[.pointer (some ⟨p, 0, none⟩), .int .i64 (d : Int)] w fun e w' => ∃ v, e = .returned (.tuple #[v, .int .i64 0]) ∧ w'.ownsRow w.heap.size 9 1 v (2 ^ d) ((hs.level m d).map encStr) ∧ Below w.heap.size w w' := by
  have hcnt := Lib.hid (fun W => bcount_any d W hd)
  have hfst := Lib.hid (fun (k : Nat) (W : World) (hk : k < 2 ^ d) => (firstP_of k d (by omega) hk) ▸ first_any (k : Int) (d : Int) W)
  have hat := Lib.hid (fun (k : Nat) (W : World) (hB : Below w.heap.size w W) => tat_any p b m (firstP k d) d W (h.old hB) (hK.old hB) (by rw [firstP_length]; decide) (by omega))
  have hsucc := Lib.hid (upto_level m d)
  have hall : Hid (((hs.level m d).take (2 ^ d)).map encStr = (hs.level m d).map encStr) := Lib.hid (by rw [← level_length hs m d, List.take_length])
  have hp1 : 2 ^ d ≤ 8 := Nat.le_trans (Nat.pow_le_pow_right (by decide) hd) (by decide)
  have hp0 : 0 < 2 ^ d := Nat.two_pow_pos d
  generalize hgr : (fun k => ((hs.level m d).take k).map encStr) = row at *
  have hr0 : Hid (row 0 = []) := Lib.hid (by rw [← hgr]; rfl)
  have hsucc : Hid (∀ k, k < 2 ^ d → row (k + 1) = row k ++ [.string ⟨(hs.at (valOf m) (keysOf m) (firstP k d) d).toArray⟩]) := Lib.hid (by rw [← hgr]; exact hsucc.out)
  have hall : Hid (row (2 ^ d) = (hs.level m d).map encStr) := Lib.hid (by rw [← hgr]; exact hall.out)
  clear hgr h hK
  generalize 2 ^ d = n at hcnt hfst hp1 hp0 hsucc hall ⊢
  have hn0 : ((n : Int) == 0) = false := by simp; omega
  go_enter Tryz.func11, Tryz.ntmps11
  go_wp2_with fail
  refine (hcnt.out _).mono ?_
  rintro e w' ⟨rfl, rfl⟩
  clear hcnt
  go_wp2_with fail
  go_loopw [7, 14] (fun v i W => ∃ k : Nat, k ≤ n ∧ i = .int .i64 k ∧ W.ownsRow w'.heap.size 9 1 v k (row k) ∧ Below w'.heap.size w' W) (fun _ i _ => n - (intOf i).toNat)
  case atStart => exact ⟨0, Nat.zero_le _, rfl, by rw [hr0.out]; exact World.ownsRow_nil _ _ _ _, Below.refl _ _⟩
  case round =>
    obtain ⟨k, hk, rfl, hown, hb⟩ := hrel
    have sz := hb.size
    have Hown := Lib.hid hown
    obtain ⟨av, cv, rfl⟩ := own_slice hown
    clear hown
    by_cases hlt : k < n
    · have Hsucc := Lib.hid (hsucc.out k hlt)
      go_wp2_with fail
      refine (hfst.out k _ hlt).mono ?_
      rintro e w2 ⟨rfl, hc2⟩
      have hb2 := hb.trans (hc2.mono sz)
      have s2 := hb2.size
      have hat2 := hat.out k w2 hb2
      go_wp2_with fail
      refine hat2.mono ?_
      rintro e w3 ⟨rfl, hc3⟩
      clear hat2
      have hb3 := hb2.trans (hc3.mono s2)
      have hcc := hc2.trans (hc3.mono hc2.size)
      have s3 := hb3.size
      go_wp2_with (at_builtin; refine Hid.out ?_)
      unfold Hid
      have hown3 : w3.ownsRow w'.heap.size 9 1 (.slice av k cv) k (row k) := (Touch.of_below hcc (fun _ => False)).own Hown.out (fun _ _ h => h)
      refine wpList_app1 rfl rfl Tryz.underlying31 Tryz.infoStr rfl hown3 rfl rfl rfl (by omega) (by unfold maxLen; omega) s3 ?_
      intro v4 w4 ho4 hg4
      have hb4 : Below w'.heap.size w' w4 := hb3.grown hg4 s3 (fun j hj => (hown3.lt j hj).1)
      have ho4 : w4.ownsRow w'.heap.size 9 1 v4 (k + 1) (row (k + 1)) := by
        rw [Hsucc.out]; exact ho4
      obtain ⟨a4, c4, rfl⟩ := own_slice ho4
      clear hown3 hg4
      go_wp2
      go_roundw
      case rel => exact ⟨k + 1, by omega, by go_num, ho4, hb4⟩
      case measure => simp [intOf]; omega
    · obtain rfl : k = n := by omega
      go_wp2
      go_ret2
      exact ⟨_, rfl, by rw [← hall.out]; exact Hown.out, hb⟩

end Go.Proofs.YtcgkomafaepjnaaGreatDoor
namespace Go.Proofs.YtcgkomafaepjnaaGreatDoor
open Go.RowKit

theorem tree_ne2 {w : World} {p b p' b' : Nat} {m m' : Puts} (h : TreeAt w p b m) (h' : TreeAt w p' b' m') : p ≠ b' := by
  obtain ⟨D, ⟨es, clock, h1, _⟩, _⟩ := h'.map
  rintro rfl
  rw [h.blk] at h1
  cases h1
theorem own_some {w : World} {R n : Nat} {v : Value} {xs : List Value} (ho : w.ownsRow R 9 1 v n xs) (hn : n ≠ 0) : ∃ g c, v = .slice (some ⟨g, 0, none⟩) n c ∧ R ≤ g := by
  rcases ho.2 with ⟨_, h0⟩ | ⟨g, cap, cur, e, hg, _⟩
  · exact absurd h0 hn
  · exact ⟨g, cap, e, hg⟩
theorem keys_in {l : List (ByteArray × ByteArray)} {K : Nat} {m : Puts} (k : Nat) (h : k < l.length) (hk : k < K) : keyB (l[k]).1 ∈ keysOf ((putsOf l K).reverse ++ m) := by
  rw [mem_keysOf, List.map_append, List.mem_append]
  refine .inl (List.mem_map.2 ⟨putOf l[k], List.mem_reverse.2 (List.mem_map.2 ⟨l[k], ?_, rfl⟩), rfl⟩)
  rw [List.mem_take_iff_getElem]
  exact ⟨k, by omega, rfl⟩

set_option maxRecDepth 100000 in
set_option maxHeartbeats 8000000 in
theorem tbands_any (a0 : Option Addr) (n0 c0 : Nat) (l0 : List (ByteArray × ByteArray)) (a1 : Option Addr) (n1 c1 : Nat) (l1 : List (ByteArray × ByteArray)) (dep : Int) (w : World) (hK : Kon w) (hp0 : PutsAt w a0 n0 l0) (hp1 : PutsAt w a1 n1 l1) (hdep : 0 ≤ dep ∧ dep < 256) :
    Calls Tryz.prog 3 #[.slice a0 n0 c0, .slice a1 n1 c1, .int .u8 dep] w fun e w' => e = .returned (.bool true) ∧ Below w.heap.size w w' := by
  have HK := Lib.hid hK
  have HP0 := Lib.hid hp0
  have HP1 := Lib.hid hp1
  have htr := Lib.hid (trees_any w hK)
  obtain ⟨d, hd⟩ : ∃ d : Nat, dep.tmod 4 = (d : Int) := ⟨(dep.tmod 4).toNat, by rw [Int.tmod_eq_emod_of_nonneg hdep.1]; omega⟩
  have hd3 : d ≤ 3 := by rw [Int.tmod_eq_emod_of_nonneg hdep.1] at hd; omega
  have hw64 : IntKind.i64.wrap dep = dep := by rw [IntKind.wrap_i64]; omega
  clear hK hp0 hp1
  go_enter Tryz.func3, Tryz.ntmps3
  go_wp2_with fail
  refine htr.out.mono ?_
  rintro e w1 ⟨rfl, hB1⟩
  clear htr
  have s1 := hB1.size
  go_wp2_with fail
  refine (tnew_any w1).mono ?_
  rintro e w2 ⟨p, b, rfl, ht2, hp2, hb2, hB2⟩
  have hB12 : Below w.heap.size w w2 := hB1.trans (hB2.mono s1)
  have s12 := hB12.size
  have HT2 := Lib.hid ht2
  have HB12 := Lib.hid hB12
  clear ht2 hB1 hB2 hB12
  go_wp2_with fail
  refine putA a0 n0 c0 p b l0 [] w w2 _ HK.out HP0.out HB12.out (by omega) HT2.out (by simp) ?_
  clear HT2 HP0
  intro _ _ _ _ _ _ _ _ _ _ _ _ _ _ _ _ _ _ _ _ _ _ _ _ _ _ _ _ _ _ _ _ _ _ _ _ _ _ _ _ K0 w3 hK0 ht3 hT3
  rw [List.append_nil] at ht3
  have hl8 : (putsOf l0 K0).reverse.length ≤ 8 := by
    rw [List.length_reverse]
    have := putsOf_length l0 K0
    omega
  have hB3 : Below w.heap.size w w3 := HB12.out.trans (hT3.below (B := w.heap.size) (by rintro i rfl; omega) s12)
  generalize (putsOf l0 K0).reverse = m0 at ht3 hl8
  have s3 := hB3.size
  have hlt3 := ht3.lt
  have HT3 := Lib.hid ht3
  have HB3 := Lib.hid hB3
  have hcopy := Lib.hid (tcopy_any p b m0 w3 ht3)
  clear ht3 hT3 hB3 HB12 hK0
  go_wp2_with fail
  refine hcopy.out.mono ?_
  rintro e w4 ⟨pw, bw, rfl, htw4, hpw, hbw, hB4⟩
  clear hcopy
  have hB04 : Below w.heap.size w w4 := HB3.out.trans (hB4.mono s3)
  have ht4 := HT3.out.old hB4
  have hnodes := Lib.hid (bnodes_any p b m0 d w4 ht4 (HK.out.old hB04) hd3)
  have HT4 := Lib.hid ht4
  have HTW4 := Lib.hid htw4
  have HB4 := Lib.hid hB04
  have hltw := htw4.lt
  have s4 := hB04.size
  have s34 := hB4.size
  clear ht4 htw4 hB04 hB4 HT3 HB3
  go_wp2_with fail
  refine hnodes.out.mono ?_
  rintro e w5 ⟨v, rfl, hrow5, hB5⟩
  clear hnodes
  have hpos : 2 ^ d ≠ 0 := Nat.ne_of_gt (Nat.two_pow_pos d)
  obtain ⟨N, hN⟩ : ∃ N, 2 ^ d = N := ⟨_, rfl⟩
  rw [hN] at hrow5 hpos
  have hNl : N ≤ 8 := by rw [← hN]; exact Nat.le_trans (Nat.pow_le_pow_right (by decide) hd3) (by decide)
  have HN := Lib.hid hN
  clear hN
  obtain ⟨G, cN, rfl, hG⟩ := own_some hrow5 hpos
  have hB05 : Below w.heap.size w w5 := HB4.out.trans (hB5.mono s4)
  have HT5 := Lib.hid (HT4.out.old hB5)
  have HTW5 := Lib.hid (HTW4.out.old hB5)
  have HR5 := Lib.hid hrow5
  have HB5 := Lib.hid hB05
  have s5 := hB05.size
  have s45 := hB5.size
  obtain ⟨K, hKn⟩ : ∃ K, K = min n1 8 := ⟨_, rfl⟩
  have HKn := Lib.hid hKn
  clear hrow5 hB5 hB05 HT4 HTW4 HB4 hKn
  go_wp2_with fail
  refine bands_loop a1 n1 c1 d p b G N cN w4.heap.size K l1 m0 w w5 _ HK.out HP1.out HB5.out hd3 HN.out HKn.out HT5.out hl8 HR5.out (by omega) ?_
  clear HT5 HR5
  intro _ _ _ _ _ _ _ _ _ _ _ _ _ _ _ _ _ _ _ _ _ _ _ _ _ _ _ _ _ _ _ _ _ _ _ _ _ _ _ _ _ _ _ _ _ _ _ _ _ _ _ _ _ _ _ _ _ _ _ _ _ _ _ _ _ _ _ _ _ _ _ _ _ _ _ _ _ _ _ _ _ _ _ _ _ _ _ _ _ _ _ _ p2 b2 w6 ht6 hrow6 hT6 hfr6
  have hbwb2 : b2 ≠ bw := fun e => hfr6 bw (by omega) (by omega) e.symm
  have htw6 : TreeAt w6 pw bw m0 := HTW5.out.touch hT6 (by omega) (by omega)
  have hB6 : Below w.heap.size w w6 := HB5.out.trans (hT6.below (B := w.heap.size) (by rintro i rfl; omega) s5)
  have hp2bw : p2 ≠ bw := tree_ne2 ht6 htw6
  have hGbw : bw ≠ G := by omega
  have HT6 := Lib.hid ht6
  have HR6 := Lib.hid hrow6
  have HTW6 := Lib.hid htw6
  have HB6 := Lib.hid hB6
  have s6 := hB6.size
  clear ht6 hrow6 hT6 hfr6 htw6 hB6 HTW5 HB5
  go_wp2_with fail
  refine putB a1 n1 c1 pw bw l1 m0 w w6 _ HK.out HP1.out HB6.out (by omega) HTW6.out (by omega) ?_
  clear HTW6
  intro _ _ _ _ _ _ _ _ _ _ _ _ _ _ _ _ _ _ _ _ _ _ _ _ _ _ _ _ _ _ _ _ _ _ _ _ _ _ _ _ K' w7 hK' htw7 hT7
  obtain rfl : K' = K := by rw [hK', HKn.out]
  have ht7 := HT6.out.touch hT7 hp2bw hbwb2
  have hrow7 := hT7.own HR6.out (by intro k hk e; have h2 : some G = some k := hk; injection h2 with h2; omega)
  have hB7 : Below w.heap.size w w7 := HB6.out.trans (hT7.below (B := w.heap.size) (by rintro i rfl; omega) s6)
  have hkU := all_keys (putsOf l1 K') m0 d
  have hvU := all_vals (putsOf l1 K') m0 d
  rw [HN.out] at hkU hvU
  generalize upto (putsOf l1 K') d m0 N = mU at ht7 hrow7 hkU hvU
  have hin : ∀ k (h : k < l1.length), k < 8 → keyB (l1[k]).1 ∈ keysOf mU := fun k h h8 => by
    rw [hkU]
    exact keys_in k h (by have := HKn.out; have := HP1.out.len; omega)
  generalize (putsOf l1 K').reverse ++ m0 = mW at htw7 hkU hvU
  have hlen := level_length hs mU d
  rw [HN.out] at hlen
  have hkr := (keyrow_of_own hrow7 (by rw [hlen]; omega) hlen.symm).1
  have hroot := Lib.hid (broot_any mU d cN _ w7 hkr (HK.out.old hB7) hd3 (fun q hq => (ht7.small q hq).1))
  rw [HN.out] at hroot
  have HT7 := Lib.hid ht7
  have HTW7 := Lib.hid htw7
  have HB7 := Lib.hid hB7
  have HIN := Lib.hid hin
  have HkU := Lib.hid hkU
  have HvU := Lib.hid hvU
  have s7 := hB7.size
  clear ht7 htw7 hrow7 hB7 hT7 hin hkU hvU hkr hlen HT6 HR6 HB6 hK'
  generalize hrt : hs.at (valOf mU) (keysOf mU) [] 0 = root at hroot
  have Hrt := Lib.hid hrt
  clear hrt
  go_wp2_with fail
  refine hroot.out.mono ?_
  rintro e w8 ⟨rfl, hB8⟩
  clear hroot
  have hB08 : Below w.heap.size w w8 := HB7.out.trans (hB8.mono s7)
  have ht8 := HT7.out.old hB8
  have htw8 := HTW7.out.old hB8
  have HRW := Lib.hid (fun W (hb : Below w8.heap.size w8 W) => troot_any pw bw mW W (htw8.old hb) (HK.out.old (hB08.trans (hb.mono hB08.size))))
  have HRT := Lib.hid (fun W (hb : Below w8.heap.size w8 W) => troot_any p2 b2 mU W (ht8.old hb) (HK.out.old (hB08.trans (hb.mono hB08.size))))
  rw [← HkU.out, ← HvU.out, Hrt.out] at HRW
  rw [Hrt.out] at HRT
  have HT8 := Lib.hid ht8
  have HTW8 := Lib.hid htw8
  have HB8 := Lib.hid hB08
  have s8 := hB08.size
  clear ht8 htw8 hB08 hB8 HT7 HTW7 HB7
  go_wp2_with fail
  refine (HRW.out w8 (Below.refl _ _)).mono ?_
  rintro e w9 ⟨rfl, hb9⟩
  have Hb9 := Lib.hid hb9
  clear HRW hb9
  go_wp2_with fail
  refine (HRT.out w9 Hb9.out).mono ?_
  rintro e w10 ⟨rfl, hb10⟩
  have h810 := Hb9.out.trans (hb10.mono Hb9.out.size)
  have HB10 := Lib.hid (HB8.out.trans (h810.mono s8))
  have HT10 := Lib.hid (HT8.out.old h810)
  have HTW10 := Lib.hid (HTW8.out.old h810)
  clear HRT hb10 h810
  go_wp2_with fail
  refine prove_loop a1 n1 c1 p2 b2 pw bw root l1 mU mW w w10 _ HK.out HP1.out HB10.out HT10.out HTW10.out HvU.out HIN.out Hrt.out.symm ?_
  clear HT10 HTW10 HIN Hrt HvU HkU
  intro _ _ _ _ _ _ _ _ _ _ _ _ _ _ _ _ _ _ _ _ _ _ _ _ _ _ _ _ _ _ _ _ _ _ _ _ _ _ _ _ _ _ _ _ _ _ _ _ _ _ _ _ _ _ _ _ _ _ _ K2 w11 hB11
  have hfin := HB10.out.trans (hB11.mono HB10.out.size)
  clear hB11 HB10
  go_wp2
  go_ret
  exact ⟨rfl, hfin⟩

end Go.Proofs.YtcgkomafaepjnaaGreatDoor
namespace Go.Proofs.YtcgkomafaepjnaaGreatDoor
open Go.RowKit Go.ChangeShapes Go.WideShapes Go.ChangeAt

def putRow (p : ByteArray × ByteArray) : List Value := [.string p.1, .string p.2]

section
variable {H : Type} {enc : TypeId × Value → H} {P : Program} {w : World} {base : Nat} {spare : Nat → Bool} {held : Bool} {t e ts : TypeId}
theorem trod_put {fs : Array Field} {n : Nat} {cs : List Value} {x : DataW H × List MemPlace} (he : P.underlying e = some (.struct fs)) (hfs : fs.toList.map (fun f => (f.type, f.offset)) = [(ts, 0), (ts, 1)])
    (hs : P.underlying ts = some .string) (cS : P.cellsOf ts = 1) (ce : P.cellsOf e = 2)
    (h : DataW.trod enc P w base spare held n e cs = some x) : ∃ p : ByteArray × ByteArray, cs = putRow p := by
  obtain ⟨xs, m, _, rfl, hl, hx, hf⟩ := DataW.trod_struct he h
  rw [ce] at hl
  have hsz : fs.size = 2 := by have := congrArg List.length hfs; simpa using this
  rw [hsz] at hx
  have hget : ∀ (i : Nat) (t : TypeId) (o : Nat), ([(ts, 0), (ts, 1)] : List (TypeId × Nat))[i]? = some (t, o) → DataW.trod enc P w base spare held m t ((cs.drop o).take (P.cellsOf t)) = xs[i]? := by
    intro i t o hi
    rw [← hfs, List.getElem?_map, Option.map_eq_some_iff] at hi
    obtain ⟨f, hf1, hf2⟩ := hi
    have e1 : f.type = t := congrArg Prod.fst hf2
    have e2 : f.offset = o := congrArg Prod.snd hf2
    have := hf i f (by simpa using hf1)
    rw [e1, e2] at this; exact this
  obtain ⟨x0, x1, rfl⟩ : ∃ a b, xs = [a, b] := by
    match xs, hx with
    | [a, b], _ => exact ⟨a, b, rfl⟩
  obtain ⟨c0, c1, rfl⟩ : ∃ a b, cs = [a, b] := by
    match cs, hl with
    | [a, b], _ => exact ⟨a, b, rfl⟩
  have h0 := hget 0 ts 0 rfl
  have h1 := hget 1 ts 1 rfl
  rw [cS] at h0 h1
  obtain ⟨z0, e0, y0, w0⟩ := DataW.trod_string hs h0
  obtain ⟨z1, e1, y1, w1⟩ := DataW.trod_string hs h1
  simp at e0 e1
  subst e0 e1
  exact ⟨(z0, z1), rfl⟩
end

section
variable {H : Type} {enc : TypeId × Value → H} {P : Program} {w : World} {r : Reach} {base b0 : Nat} {spare : Nat → Bool} {held : Bool} {t e ts : TypeId} {v : Value} {d : DataW H} {ps : List MemPlace}
/-- A slice of puts: its cells. -/
theorem open_puts {fs : Array Field} (ht : P.underlying t = some (.slice e)) (he : P.underlying e = some (.struct fs)) (hfs : fs.toList.map (fun f => (f.type, f.offset)) = [(ts, 0), (ts, 1)])
    (hs : P.underlying ts = some .string) (cS : P.cellsOf ts = 1) (ce : P.cellsOf e = 2)
    (hok : Value.okWide P w r b0 t v) (h : DataW.Trod enc P w base spare held t v d ps) :
    ∃ a len cap, ∃ l : List (ByteArray × ByteArray), v = .slice a len cap ∧ len ≤ cap ∧ PutsAt w a len l := by
  obtain ⟨a0, len0, cap0, rfl⟩ := okWide_slice ht hok
  obtain ⟨fuel, hf⟩ := h
  rcases Go.Deep.open_slice ht hf with ⟨hcs, _⟩ | ⟨x, l, c, m, n, D, Pl, hcs, _, hl, hm, hmm, hx, hel⟩
  · simp [Value.cells] at hcs
    obtain ⟨rfl, rfl, rfl⟩ := hcs
    exact ⟨none, 0, 0, [], rfl, Nat.le_refl _, ⟨rfl, fun k hk => by cases hk⟩⟩
  · simp [Value.cells] at hcs
    obtain ⟨rfl, rfl, rfl⟩ := hcs
    rw [ce] at hel
    have hlm : len0 ≤ m := by rw [hmm]; split <;> omega
    have hex : ∀ i, i < len0 → ∃ p : ByteArray × ByteArray, w.cells? base (x.add (i * 2)) 2 = some (putRow p) := by
      intro i hi'
      obtain ⟨cs', h1, h2⟩ := hel i (by omega)
      obtain ⟨p, rfl⟩ := trod_put he hfs hs cS ce h2
      exact ⟨p, h1⟩
    haveI : Inhabited (ByteArray × ByteArray) := ⟨(ByteArray.empty, ByteArray.empty)⟩
    obtain ⟨f, hfp⟩ := Go.Deep.choose_lt hex
    have hcell : ∀ i, i < len0 → ∀ j u, (putRow (f i))[j]? = some u → w.cell? (x.add (i * 2 + j)) = some u := by
      intro i hi' j u hj
      have h1 := hfp i hi'
      unfold World.cells? at h1
      split at h1
      · have hj4 : j < 2 := by
          rcases Nat.lt_or_ge j 2 with h | h
          · exact h
          · rw [List.getElem?_eq_none (by simpa [putRow] using h)] at hj; cases hj
        have := mapM_some_get h1 j j (by simp [hj4])
        rw [Go.Deep.add_add, hj] at this
        exact this
      · cases h1
    refine ⟨some x, len0, cap0, (List.range len0).map f, rfl, hl, ⟨by simp, fun k hk => ?_⟩⟩
    have hkl : k < len0 := by simpa using hk
    have h0 := hcell k hkl 0 _ rfl
    have h1 := hcell k hkl 1 _ rfl
    obtain ⟨b, off, spot⟩ := x
    have hspot : spot = none := by
      have h00 := hcell 0 (by omega) 0 _ rfl
      simpa [Addr.add] using World.cell?_spot h00
    subst hspot
    rw [Addr.add_mid] at h0 h1
    refine ⟨b, off, rfl, World.block_lt_of_cell? w _ h0, ?_, ?_⟩
    · simpa using h0
    · have : off + (k * 2 + 1) = off + k * 2 + 1 := by omega
      rw [this] at h1
      simpa using h1
end

end Go.Proofs.YtcgkomafaepjnaaGreatDoor
namespace Go.Proofs.YtcgkomafaepjnaaGreatDoor
open Go.RowKit Go.ChangeShapes Go.WideShapes Go.ChangeAt

section
variable {H : Type} {enc : TypeId × Value → H} {P : Program} {w : World} {r : Reach} {base b0 : Nat} {spare : Nat → Bool} {held : Bool} {t e : TypeId} {v : Value} {d : DataW H} {ps : List MemPlace}

theorem lt_of_trod (h : DataW.Trod enc P w base spare held t v d ps) : ∀ x ∈ ps, x.block < w.heap.size := by
  obtain ⟨m, hm⟩ := h; exact DataW.trod_lt m _ _ _ hm

/-- An array of bytes by value. -/
theorem open_bytes {n : Nat} (ht : P.underlying t = some (.array n e)) (he : P.underlying e = some (.int .u8)) (hct : P.cellsOf t = n) (hce : P.cellsOf e = 1)
    (hok : Value.okWide P w r b0 t v) (h : DataW.Trod enc P w base spare held t v d ps) : ∃ l : List UInt8, v = .agg (bytesV l).toArray ∧ l.length = n := by
  simp only [Value.okWide, ht] at hok
  obtain ⟨cs, rfl, hsz, _⟩ := hok
  obtain ⟨fuel, hf⟩ := h
  obtain ⟨xs, m, _, _, hl, hxl, hx⟩ := DataW.trod_array ht hf
  rw [hct] at hsz
  have hbyte : ∀ i, (hi : i < n) → ∃ z : Int, cs.toList[i]? = some (.int .u8 z) ∧ 0 ≤ z ∧ z ≤ 255 := by
    intro i hi
    have h1 := hx i hi
    rw [hce, Nat.mul_one, List.getElem?_eq_getElem (by omega)] at h1
    obtain ⟨z, hz, _, hw⟩ := DataW.trod_int he h1
    refine ⟨z, ?_, bounds_u8 hw⟩
    have h2 : (cs.toList.drop i).take 1 = [Value.int .u8 z] := by simpa [Value.cells] using hz
    have h3 : ((cs.toList.drop i).take 1)[0]? = some (.int .u8 z) := by rw [h2]; rfl
    simpa using h3
  have key : ∀ k, k ≤ n → ∃ l : List UInt8, l.length = k ∧ cs.toList.take k = bytesV l := by
    intro k
    induction k with
    | zero => intro _; exact ⟨[], rfl, by simp [bytesV]⟩
    | succ k ih =>
      intro hk
      obtain ⟨l, hl, hc⟩ := ih (by omega)
      obtain ⟨z, hz, h0, h1⟩ := hbyte k (by omega)
      refine ⟨l ++ [UInt8.ofNat z.toNat], by simp [hl], ?_⟩
      rw [List.take_add_one, hc, hz]
      have e1 : (UInt8.ofNat z.toNat).toNat = z.toNat := by simp; omega
      have e2 : ((z.toNat : Nat) : Int) = z := by omega
      simp only [bytesV, List.map_append, List.map_cons, List.map_nil, Option.toList_some, e1, e2]
  obtain ⟨l, hl, hc⟩ := key n (Nat.le_refl _)
  refine ⟨l, ?_, hl⟩
  have : cs.toList.take n = cs.toList := List.take_of_length_le (by simp [hsz])
  rw [this] at hc
  rw [← hc]

/-- A slice of numbers. -/
theorem open_intSlice (ht : P.underlying t = some (.slice e)) (he : P.underlying e = some (.int .i64)) (hce : P.cellsOf e = 1)
    (hok : Value.okWide P w r b0 t v) (h : DataW.Trod enc P w base spare held t v d ps) :
    ∃ a len cap zs, v = .slice a len cap ∧ len ≤ cap ∧ List.length zs = len ∧ Cells w (.slice a len cap) (ints zs) ∧ ∀ z ∈ zs, (Lit.int .i64 z).wf = true := by
  obtain ⟨a0, len0, cap0, rfl⟩ := okWide_slice ht hok
  obtain ⟨fuel, hf⟩ := h
  rcases open_ints ht he hce hf with ⟨hcs, _⟩ | ⟨x, l, c, zs, hcs, _, hl, hm, hz, _, hcell, hwz⟩
  · simp [Value.cells] at hcs
    obtain ⟨rfl, rfl, rfl⟩ := hcs
    exact ⟨none, 0, 0, [], rfl, Nat.le_refl _, rfl, ⟨none, 0, rfl, fun h => absurd rfl h⟩, fun z hz => by cases hz⟩
  · simp [Value.cells] at hcs
    obtain ⟨rfl, rfl, rfl⟩ := hcs
    have hz' : len0 ≤ zs.length := by rw [hz]; split <;> omega
    clear hz
    have hll : (zs.take len0).length = len0 := by rw [List.length_take]; omega
    refine ⟨some x, len0, cap0, zs.take len0, rfl, hl, hll, ⟨some x, cap0, by rw [ints_length, hll], fun hne => ?_⟩, fun z hz => hwz z (List.mem_of_mem_take hz)⟩
    have hpos : 0 < len0 := by
      rcases Nat.eq_zero_or_pos len0 with h | h
      · subst h; exact absurd rfl hne
      · exact h
    obtain ⟨b, off, rfl, hd⟩ := ints_at hcell (by omega)
    refine ⟨b, off, rfl, World.block_lt_of_cell? w _ (hd 0 (by omega)), fun j hj => ?_⟩
    rw [ints_length, hll] at hj
    rw [hd j (by omega), ints_getD _ _ (by omega)]
    simp [List.getD, hj]
end

end Go.Proofs.YtcgkomafaepjnaaGreatDoor
