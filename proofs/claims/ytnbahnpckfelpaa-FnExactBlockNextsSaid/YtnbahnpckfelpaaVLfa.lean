import Derived.Test.YtnbahnpckfelpaaVLx
import Derived.Test.YtnbahnpckfelpaaChecked
/-! What the program says of its types. -/
namespace Go.Proofs.Ytnbahnpckfelpaa.VL
theorem ft_26_0 : fieldT Try.prog 26 0 = some 0 := by kernel_rfl
theorem ft_26_1 : fieldT Try.prog 26 1 = some 1 := by kernel_rfl
theorem ft_26_2 : fieldT Try.prog 26 2 = some 2 := by kernel_rfl
theorem ft_26_3 : fieldT Try.prog 26 3 = some 3 := by kernel_rfl
theorem ft_28_0 : fieldT Try.prog 28 0 = some 0 := by kernel_rfl
theorem ft_28_1 : fieldT Try.prog 28 1 = some 1 := by kernel_rfl
theorem ft_39_0 : fieldT Try.prog 39 0 = some 0 := by kernel_rfl
theorem ft_39_1 : fieldT Try.prog 39 1 = some 1 := by kernel_rfl
theorem ft_39_2 : fieldT Try.prog 39 2 = some 2 := by kernel_rfl
theorem ft_39_3 : fieldT Try.prog 39 3 = some 3 := by kernel_rfl
theorem ft_65_0 : fieldT Try.prog 65 0 = some 0 := by kernel_rfl
theorem ft_65_1 : fieldT Try.prog 65 1 = some 1 := by kernel_rfl
theorem ft_65_2 : fieldT Try.prog 65 2 = some 2 := by kernel_rfl
theorem ft_72_0 : fieldT Try.prog 72 0 = some 0 := by kernel_rfl
theorem ft_72_1 : fieldT Try.prog 72 1 = some 1 := by kernel_rfl
theorem ft_72_2 : fieldT Try.prog 72 2 = some 2 := by kernel_rfl
theorem ft_83_0 : fieldT Try.prog 83 0 = some 0 := by kernel_rfl
theorem ft_83_1 : fieldT Try.prog 83 1 = some 1 := by kernel_rfl
theorem ft_83_2 : fieldT Try.prog 83 2 = some 2 := by kernel_rfl
theorem ft_83_3 : fieldT Try.prog 83 3 = some 3 := by kernel_rfl
theorem ft_83_4 : fieldT Try.prog 83 4 = some 4 := by kernel_rfl
theorem ft_83_5 : fieldT Try.prog 83 5 = some 5 := by kernel_rfl
theorem ft_83_6 : fieldT Try.prog 83 6 = some 6 := by kernel_rfl
theorem ft_92_0 : fieldT Try.prog 92 0 = some 0 := by kernel_rfl
theorem ft_92_1 : fieldT Try.prog 92 1 = some 4 := by kernel_rfl
theorem ft_92_2 : fieldT Try.prog 92 2 = some 5 := by kernel_rfl
theorem ft_107_0 : fieldT Try.prog 107 0 = some 0 := by kernel_rfl
theorem ft_107_1 : fieldT Try.prog 107 1 = some 1 := by kernel_rfl
theorem ft_107_2 : fieldT Try.prog 107 2 = some 2 := by kernel_rfl
theorem ft_107_3 : fieldT Try.prog 107 3 = some 3 := by kernel_rfl
theorem ft_107_4 : fieldT Try.prog 107 4 = some 4 := by kernel_rfl
theorem ft_107_5 : fieldT Try.prog 107 5 = some 5 := by kernel_rfl
theorem ft_107_6 : fieldT Try.prog 107 6 = some 6 := by kernel_rfl
theorem cc_3 : Try.prog.cellsOf 3 = 1 := by kernel_rfl
theorem in_3 : (Try.prog.info? 3).isSome = true := by kernel_rfl
theorem ag_3 : aggT Try.prog 3 = some false := by kernel_rfl
theorem cc_4 : Try.prog.cellsOf 4 = 1 := by kernel_rfl
theorem in_4 : (Try.prog.info? 4).isSome = true := by kernel_rfl
theorem ag_4 : aggT Try.prog 4 = some false := by kernel_rfl
theorem cc_5 : Try.prog.cellsOf 5 = 1 := by kernel_rfl
theorem in_5 : (Try.prog.info? 5).isSome = true := by kernel_rfl
theorem ag_5 : aggT Try.prog 5 = some false := by kernel_rfl
theorem cc_22 : Try.prog.cellsOf 22 = 1 := by kernel_rfl
theorem in_22 : (Try.prog.info? 22).isSome = true := by kernel_rfl
theorem ag_22 : aggT Try.prog 22 = some false := by kernel_rfl
theorem cc_23 : Try.prog.cellsOf 23 = 1 := by kernel_rfl
theorem in_23 : (Try.prog.info? 23).isSome = true := by kernel_rfl
theorem ag_23 : aggT Try.prog 23 = some false := by kernel_rfl
theorem cc_24 : Try.prog.cellsOf 24 = 1 := by kernel_rfl
theorem in_24 : (Try.prog.info? 24).isSome = true := by kernel_rfl
theorem ag_24 : aggT Try.prog 24 = some false := by kernel_rfl
theorem cc_26 : Try.prog.cellsOf 26 = 4 := by kernel_rfl
theorem in_26 : (Try.prog.info? 26).isSome = true := by kernel_rfl
theorem ag_26 : aggT Try.prog 26 = some true := by kernel_rfl
theorem cc_28 : Try.prog.cellsOf 28 = 5 := by kernel_rfl
theorem in_28 : (Try.prog.info? 28).isSome = true := by kernel_rfl
theorem ag_28 : aggT Try.prog 28 = some true := by kernel_rfl
theorem cc_37 : Try.prog.cellsOf 37 = 1 := by kernel_rfl
theorem in_37 : (Try.prog.info? 37).isSome = true := by kernel_rfl
theorem ag_37 : aggT Try.prog 37 = some false := by kernel_rfl
theorem cc_39 : Try.prog.cellsOf 39 = 4 := by kernel_rfl
theorem in_39 : (Try.prog.info? 39).isSome = true := by kernel_rfl
theorem ag_39 : aggT Try.prog 39 = some true := by kernel_rfl
theorem cc_45 : Try.prog.cellsOf 45 = 1 := by kernel_rfl
theorem in_45 : (Try.prog.info? 45).isSome = true := by kernel_rfl
theorem ag_45 : aggT Try.prog 45 = some false := by kernel_rfl
theorem cc_50 : Try.prog.cellsOf 50 = 1 := by kernel_rfl
theorem in_50 : (Try.prog.info? 50).isSome = true := by kernel_rfl
theorem ag_50 : aggT Try.prog 50 = some false := by kernel_rfl
theorem cc_65 : Try.prog.cellsOf 65 = 3 := by kernel_rfl
theorem in_65 : (Try.prog.info? 65).isSome = true := by kernel_rfl
theorem ag_65 : aggT Try.prog 65 = some true := by kernel_rfl
theorem cc_72 : Try.prog.cellsOf 72 = 3 := by kernel_rfl
theorem in_72 : (Try.prog.info? 72).isSome = true := by kernel_rfl
theorem ag_72 : aggT Try.prog 72 = some true := by kernel_rfl
theorem cc_83 : Try.prog.cellsOf 83 = 7 := by kernel_rfl
theorem in_83 : (Try.prog.info? 83).isSome = true := by kernel_rfl
theorem ag_83 : aggT Try.prog 83 = some true := by kernel_rfl
theorem cc_90 : Try.prog.cellsOf 90 = 1 := by kernel_rfl
theorem in_90 : (Try.prog.info? 90).isSome = true := by kernel_rfl
theorem ag_90 : aggT Try.prog 90 = some false := by kernel_rfl
theorem cc_92 : Try.prog.cellsOf 92 = 6 := by kernel_rfl
theorem in_92 : (Try.prog.info? 92).isSome = true := by kernel_rfl
theorem ag_92 : aggT Try.prog 92 = some true := by kernel_rfl
theorem cc_107 : Try.prog.cellsOf 107 = 7 := by kernel_rfl
theorem in_107 : (Try.prog.info? 107).isSome = true := by kernel_rfl
theorem ag_107 : aggT Try.prog 107 = some true := by kernel_rfl
theorem cc_109 : Try.prog.cellsOf 109 = 4 := by kernel_rfl
theorem in_109 : (Try.prog.info? 109).isSome = true := by kernel_rfl
theorem ag_109 : aggT Try.prog 109 = some true := by kernel_rfl
theorem cc_152 : Try.prog.cellsOf 152 = 1 := by kernel_rfl
theorem in_152 : (Try.prog.info? 152).isSome = true := by kernel_rfl
theorem ag_152 : aggT Try.prog 152 = some false := by kernel_rfl
theorem by_3 : Try.prog.bytesOf 3 = 8 := by kernel_rfl
theorem by_4 : Try.prog.bytesOf 4 = 1 := by kernel_rfl
theorem by_5 : Try.prog.bytesOf 5 = 1 := by kernel_rfl
theorem by_26 : Try.prog.bytesOf 26 = 48 := by kernel_rfl
theorem by_45 : Try.prog.bytesOf 45 = 24 := by kernel_rfl
theorem by_50 : Try.prog.bytesOf 50 = 24 := by kernel_rfl
theorem by_83 : Try.prog.bytesOf 83 = 72 := by kernel_rfl
theorem by_107 : Try.prog.bytesOf 107 = 72 := by kernel_rfl
theorem zt_3 : zeroT Try.prog 3 = some [.sc (.int .i64 0)] := by kernel_rfl
theorem zt_4 : zeroT Try.prog 4 = some [.sc (.bool false)] := by kernel_rfl
theorem zt_5 : zeroT Try.prog 5 = some [.sc (.int .u8 0)] := by kernel_rfl
theorem zt_22 : zeroT Try.prog 22 = some [.nd false .own 1 []] := by kernel_rfl
theorem zt_23 : zeroT Try.prog 23 = some [.nd false .own 1 []] := by kernel_rfl
theorem zt_24 : zeroT Try.prog 24 = some [.nd false .own 1 []] := by kernel_rfl
theorem zt_26 : zeroT Try.prog 26 = some [.sc (.int .i64 0), .sc (.int .i64 0), .sc (.int .i64 0), .nd false .own 1 []] := by kernel_rfl
theorem zt_28 : zeroT Try.prog 28 = some [.nd false .own 1 [], .sc (.int .i64 0), .sc (.int .i64 0), .sc (.int .i64 0), .nd false .own 1 []] := by kernel_rfl
theorem zt_37 : zeroT Try.prog 37 = some [.nd false .own 1 []] := by kernel_rfl
theorem zt_39 : zeroT Try.prog 39 = some [.sc (.int .i64 0), .sc (.int .i64 0), .sc (.int .i64 0), .nd false .own 1 []] := by kernel_rfl
theorem zt_45 : zeroT Try.prog 45 = some [.nd false .own 1 []] := by kernel_rfl
theorem zt_50 : zeroT Try.prog 50 = some [.nd false .own 1 []] := by kernel_rfl
theorem zt_65 : zeroT Try.prog 65 = some [.nd false .own 1 [], .sc (.int .i64 0), .sc (.bool false)] := by kernel_rfl
theorem zt_72 : zeroT Try.prog 72 = some [.nd false .own 1 [], .sc (.int .i64 0), .sc (.bool false)] := by kernel_rfl
theorem zt_83 : zeroT Try.prog 83 = some [.sc (.int .i64 0), .sc (.int .i64 0), .sc (.int .i64 0), .sc (.int .i64 0), .sc (.int .i64 0), .nd false .own 1 [], .sc (.int .i64 0)] := by kernel_rfl
theorem zt_90 : zeroT Try.prog 90 = some [.nd false .own 1 []] := by kernel_rfl
theorem zt_92 : zeroT Try.prog 92 = some [.sc (.int .i64 0), .sc (.int .i64 0), .sc (.int .i64 0), .nd false .own 1 [], .nd false .own 1 [], .sc (.bool false)] := by kernel_rfl
theorem zt_107 : zeroT Try.prog 107 = some [.sc (.int .i64 0), .sc (.int .i64 0), .sc (.int .i64 0), .sc (.int .i64 0), .sc (.int .i64 0), .nd false .own 1 [], .sc (.int .i64 0)] := by kernel_rfl
theorem zt_109 : zeroT Try.prog 109 = some [.sc (.bool false), .sc (.bool false), .sc (.bool false), .sc (.bool false)] := by kernel_rfl
theorem zt_152 : zeroT Try.prog 152 = some [.sc (.int .u64 0)] := by kernel_rfl
theorem pl_26 : placesT Try.prog 26 = some [(0, 1), (1, 1), (2, 1), (3, 1)] := by kernel_rfl
theorem pl_28 : placesT Try.prog 28 = some [(0, 1), (1, 4)] := by kernel_rfl
theorem pl_65 : placesT Try.prog 65 = some [(0, 1), (1, 1), (2, 1)] := by kernel_rfl
theorem pl_72 : placesT Try.prog 72 = some [(0, 1), (1, 1), (2, 1)] := by kernel_rfl
theorem pl_83 : placesT Try.prog 83 = some [(0, 1), (1, 1), (2, 1), (3, 1), (4, 1), (5, 1), (6, 1)] := by kernel_rfl
theorem pl_92 : placesT Try.prog 92 = some [(0, 4), (4, 1), (5, 1)] := by kernel_rfl
theorem zs_3 : zsize Try.prog 3 = some 1 := by kernel_rfl
theorem zs_4 : zsize Try.prog 4 = some 1 := by kernel_rfl
theorem zs_5 : zsize Try.prog 5 = some 1 := by kernel_rfl
theorem zs_22 : zsize Try.prog 22 = some 1 := by kernel_rfl
theorem zs_23 : zsize Try.prog 23 = some 1 := by kernel_rfl
theorem zs_24 : zsize Try.prog 24 = some 1 := by kernel_rfl
theorem zs_26 : zsize Try.prog 26 = some 4 := by kernel_rfl
theorem zs_28 : zsize Try.prog 28 = some 5 := by kernel_rfl
theorem zs_37 : zsize Try.prog 37 = some 1 := by kernel_rfl
theorem zs_39 : zsize Try.prog 39 = some 4 := by kernel_rfl
theorem zs_45 : zsize Try.prog 45 = some 1 := by kernel_rfl
theorem zs_50 : zsize Try.prog 50 = some 1 := by kernel_rfl
theorem zs_65 : zsize Try.prog 65 = some 3 := by kernel_rfl
theorem zs_72 : zsize Try.prog 72 = some 3 := by kernel_rfl
theorem zs_83 : zsize Try.prog 83 = some 7 := by kernel_rfl
theorem zs_90 : zsize Try.prog 90 = some 1 := by kernel_rfl
theorem zs_92 : zsize Try.prog 92 = some 6 := by kernel_rfl
theorem zs_107 : zsize Try.prog 107 = some 7 := by kernel_rfl
theorem zs_109 : zsize Try.prog 109 = some 4 := by kernel_rfl
theorem zs_152 : zsize Try.prog 152 = some 1 := by kernel_rfl
theorem fn3 : Fun Try.prog 3 := Fun.mk' Try.func3 rfl rfl
theorem fn4 : Fun Try.prog 4 := Fun.mk' Try.func4 rfl rfl
theorem fn5 : Fun Try.prog 5 := Fun.mk' Try.func5 rfl rfl
theorem fn6 : Fun Try.prog 6 := Fun.mk' Try.func6 rfl rfl
theorem fn7 : Fun Try.prog 7 := Fun.mk' Try.func7 rfl rfl
theorem fn8 : Fun Try.prog 8 := Fun.mk' Try.func8 rfl rfl
theorem fn9 : Fun Try.prog 9 := Fun.mk' Try.func9 rfl rfl
theorem fn10 : Fun Try.prog 10 := Fun.mk' Try.func10 rfl rfl
theorem fn11 : Fun Try.prog 11 := Fun.mk' Try.func11 rfl rfl
theorem fn12 : Fun Try.prog 12 := Fun.mk' Try.func12 rfl rfl
theorem fn13 : Fun Try.prog 13 := Fun.mk' Try.func13 rfl rfl
theorem fn14 : Fun Try.prog 14 := Fun.mk' Try.func14 rfl rfl
theorem fn15 : Fun Try.prog 15 := Fun.mk' Try.func15 rfl rfl
theorem fn16 : Fun Try.prog 16 := Fun.mk' Try.func16 rfl rfl
theorem fn17 : Fun Try.prog 17 := Fun.mk' Try.func17 rfl rfl
theorem fn18 : Fun Try.prog 18 := Fun.mk' Try.func18 rfl rfl
theorem fn19 : Fun Try.prog 19 := Fun.mk' Try.func19 rfl rfl
theorem fn20 : Fun Try.prog 20 := Fun.mk' Try.func20 rfl rfl
theorem fn21 : Fun Try.prog 21 := Fun.mk' Try.func21 rfl rfl
theorem fn22 : Fun Try.prog 22 := Fun.mk' Try.func22 rfl rfl
theorem fn23 : Fun Try.prog 23 := Fun.mk' Try.func23 rfl rfl
theorem fn24 : Fun Try.prog 24 := Fun.mk' Try.func24 rfl rfl
theorem fn25 : Fun Try.prog 25 := Fun.mk' Try.func25 rfl rfl
theorem fn26 : Fun Try.prog 26 := Fun.mk' Try.func26 rfl rfl
theorem fn27 : Fun Try.prog 27 := Fun.mk' Try.func27 rfl rfl
theorem fn28 : Fun Try.prog 28 := Fun.mk' Try.func28 rfl rfl
theorem fn29 : Fun Try.prog 29 := Fun.mk' Try.func29 rfl rfl
theorem fn30 : Fun Try.prog 30 := Fun.mk' Try.func30 rfl rfl
theorem fn31 : Fun Try.prog 31 := Fun.mk' Try.func31 rfl rfl
theorem fn32 : Fun Try.prog 32 := Fun.mk' Try.func32 rfl rfl
theorem fn33 : Fun Try.prog 33 := Fun.mk' Try.func33 rfl rfl
theorem fn34 : Fun Try.prog 34 := Fun.mk' Try.func34 rfl rfl
theorem fn35 : Fun Try.prog 35 := Fun.mk' Try.func35 rfl rfl
theorem fn36 : Fun Try.prog 36 := Fun.mk' Try.func36 rfl rfl
theorem fn37 : Fun Try.prog 37 := Fun.mk' Try.func37 rfl rfl
theorem fn38 : Fun Try.prog 38 := Fun.mk' Try.func38 rfl rfl
theorem fn39 : Fun Try.prog 39 := Fun.mk' Try.func39 rfl rfl
theorem fn40 : Fun Try.prog 40 := Fun.mk' Try.func40 rfl rfl
theorem fn41 : Fun Try.prog 41 := Fun.mk' Try.func41 rfl rfl
theorem fn42 : Fun Try.prog 42 := Fun.mk' Try.func42 rfl rfl
theorem fn43 : Fun Try.prog 43 := Fun.mk' Try.func43 rfl rfl
theorem fn44 : Fun Try.prog 44 := Fun.mk' Try.func44 rfl rfl
theorem fn45 : Fun Try.prog 45 := Fun.mk' Try.func45 rfl rfl
theorem fn46 : Fun Try.prog 46 := Fun.mk' Try.func46 rfl rfl
theorem fn47 : Fun Try.prog 47 := Fun.mk' Try.func47 rfl rfl
theorem fn48 : Fun Try.prog 48 := Fun.mk' Try.func48 rfl rfl
theorem fn49 : Fun Try.prog 49 := Fun.mk' Try.func49 rfl rfl
theorem fn50 : Fun Try.prog 50 := Fun.mk' Try.func50 rfl rfl
theorem fn51 : Fun Try.prog 51 := Fun.mk' Try.func51 rfl rfl
theorem fn52 : Fun Try.prog 52 := Fun.mk' Try.func52 rfl rfl
theorem fn53 : Fun Try.prog 53 := Fun.mk' Try.func53 rfl rfl
theorem fn54 : Fun Try.prog 54 := Fun.mk' Try.func54 rfl rfl
theorem fn55 : Fun Try.prog 55 := Fun.mk' Try.func55 rfl rfl
theorem fn56 : Fun Try.prog 56 := Fun.mk' Try.func56 rfl rfl
theorem fn57 : Fun Try.prog 57 := Fun.mk' Try.func57 rfl rfl
theorem fn58 : Fun Try.prog 58 := Fun.mk' Try.func58 rfl rfl
theorem fn59 : Fun Try.prog 59 := Fun.mk' Try.func59 rfl rfl
theorem fn60 : Fun Try.prog 60 := Fun.mk' Try.func60 rfl rfl
theorem fn61 : Fun Try.prog 61 := Fun.mk' Try.func61 rfl rfl
theorem fn62 : Fun Try.prog 62 := Fun.mk' Try.func62 rfl rfl
theorem fn63 : Fun Try.prog 63 := Fun.mk' Try.func63 rfl rfl
theorem fn64 : Fun Try.prog 64 := Fun.mk' Try.func64 rfl rfl
theorem fn65 : Fun Try.prog 65 := Fun.mk' Try.func65 rfl rfl
theorem fn66 : Fun Try.prog 66 := Fun.mk' Try.func66 rfl rfl
theorem fn67 : Fun Try.prog 67 := Fun.mk' Try.func67 rfl rfl
theorem fn68 : Fun Try.prog 68 := Fun.mk' Try.func68 rfl rfl
theorem fn69 : Fun Try.prog 69 := Fun.mk' Try.func69 rfl rfl
theorem fn70 : Fun Try.prog 70 := Fun.mk' Try.func70 rfl rfl
theorem fn71 : Fun Try.prog 71 := Fun.mk' Try.func71 rfl rfl
theorem fn72 : Fun Try.prog 72 := Fun.mk' Try.func72 rfl rfl
theorem fn73 : Fun Try.prog 73 := Fun.mk' Try.func73 rfl rfl
theorem fn74 : Fun Try.prog 74 := Fun.mk' Try.func74 rfl rfl
theorem fn75 : Fun Try.prog 75 := Fun.mk' Try.func75 rfl rfl
theorem fn76 : Fun Try.prog 76 := Fun.mk' Try.func76 rfl rfl
theorem fn77 : Fun Try.prog 77 := Fun.mk' Try.func77 rfl rfl
theorem fn78 : Fun Try.prog 78 := Fun.mk' Try.func78 rfl rfl
theorem fn79 : Fun Try.prog 79 := Fun.mk' Try.func79 rfl rfl
theorem fn80 : Fun Try.prog 80 := Fun.mk' Try.func80 rfl rfl
theorem fn81 : Fun Try.prog 81 := Fun.mk' Try.func81 rfl rfl
theorem fn82 : Fun Try.prog 82 := Fun.mk' Try.func82 rfl rfl
theorem fn83 : Fun Try.prog 83 := Fun.mk' Try.func83 rfl rfl
theorem fn84 : Fun Try.prog 84 := Fun.mk' Try.func84 rfl rfl
theorem fn85 : Fun Try.prog 85 := Fun.mk' Try.func85 rfl rfl
theorem fn86 : Fun Try.prog 86 := Fun.mk' Try.func86 rfl rfl
theorem fn87 : Fun Try.prog 87 := Fun.mk' Try.func87 rfl rfl
theorem fn88 : Fun Try.prog 88 := Fun.mk' Try.func88 rfl rfl
theorem fn89 : Fun Try.prog 89 := Fun.mk' Try.func89 rfl rfl
theorem fn90 : Fun Try.prog 90 := Fun.mk' Try.func90 rfl rfl
theorem fn91 : Fun Try.prog 91 := Fun.mk' Try.func91 rfl rfl
theorem fn92 : Fun Try.prog 92 := Fun.mk' Try.func92 rfl rfl
theorem fn93 : Fun Try.prog 93 := Fun.mk' Try.func93 rfl rfl
theorem fn94 : Fun Try.prog 94 := Fun.mk' Try.func94 rfl rfl
theorem fn95 : Fun Try.prog 95 := Fun.mk' Try.func95 rfl rfl
theorem fn96 : Fun Try.prog 96 := Fun.mk' Try.func96 rfl rfl
theorem fn97 : Fun Try.prog 97 := Fun.mk' Try.func97 rfl rfl
theorem fn98 : Fun Try.prog 98 := Fun.mk' Try.func98 rfl rfl
theorem fn99 : Fun Try.prog 99 := Fun.mk' Try.func99 rfl rfl
theorem fn100 : Fun Try.prog 100 := Fun.mk' Try.func100 rfl rfl
theorem fn101 : Fun Try.prog 101 := Fun.mk' Try.func101 rfl rfl
theorem fn102 : Fun Try.prog 102 := Fun.mk' Try.func102 rfl rfl
theorem fn103 : Fun Try.prog 103 := Fun.mk' Try.func103 rfl rfl
theorem fn104 : Fun Try.prog 104 := Fun.mk' Try.func104 rfl rfl
theorem fn105 : Fun Try.prog 105 := Fun.mk' Try.func105 rfl rfl
theorem fn106 : Fun Try.prog 106 := Fun.mk' Try.func106 rfl rfl
theorem fn107 : Fun Try.prog 107 := Fun.mk' Try.func107 rfl rfl
theorem fn108 : Fun Try.prog 108 := Fun.mk' Try.func108 rfl rfl
theorem fn109 : Fun Try.prog 109 := Fun.mk' Try.func109 rfl rfl
theorem fn110 : Fun Try.prog 110 := Fun.mk' Try.func110 rfl rfl
theorem fn111 : Fun Try.prog 111 := Fun.mk' Try.func111 rfl rfl
theorem fn112 : Fun Try.prog 112 := Fun.mk' Try.func112 rfl rfl
theorem fn113 : Fun Try.prog 113 := Fun.mk' Try.func113 rfl rfl
theorem fn114 : Fun Try.prog 114 := Fun.mk' Try.func114 rfl rfl
theorem fn115 : Fun Try.prog 115 := Fun.mk' Try.func115 rfl rfl
theorem fn116 : Fun Try.prog 116 := Fun.mk' Try.func116 rfl rfl
theorem fn117 : Fun Try.prog 117 := Fun.mk' Try.func117 rfl rfl
theorem fn118 : Fun Try.prog 118 := Fun.mk' Try.func118 rfl rfl
theorem fn119 : Fun Try.prog 119 := Fun.mk' Try.func119 rfl rfl
theorem fn120 : Fun Try.prog 120 := Fun.mk' Try.func120 rfl rfl
theorem fn121 : Fun Try.prog 121 := Fun.mk' Try.func121 rfl rfl
theorem fn122 : Fun Try.prog 122 := Fun.mk' Try.func122 rfl rfl
theorem fn123 : Fun Try.prog 123 := Fun.mk' Try.func123 rfl rfl
theorem fn124 : Fun Try.prog 124 := Fun.mk' Try.func124 rfl rfl
theorem fn125 : Fun Try.prog 125 := Fun.mk' Try.func125 rfl rfl
theorem fn126 : Fun Try.prog 126 := Fun.mk' Try.func126 rfl rfl
theorem fn127 : Fun Try.prog 127 := Fun.mk' Try.func127 rfl rfl
theorem fn128 : Fun Try.prog 128 := Fun.mk' Try.func128 rfl rfl
theorem fn129 : Fun Try.prog 129 := Fun.mk' Try.func129 rfl rfl
theorem fn130 : Fun Try.prog 130 := Fun.mk' Try.func130 rfl rfl
theorem fn131 : Fun Try.prog 131 := Fun.mk' Try.func131 rfl rfl
theorem fn132 : Fun Try.prog 132 := Fun.mk' Try.func132 rfl rfl
theorem fn133 : Fun Try.prog 133 := Fun.mk' Try.func133 rfl rfl
theorem fn134 : Fun Try.prog 134 := Fun.mk' Try.func134 rfl rfl
theorem fn135 : Fun Try.prog 135 := Fun.mk' Try.func135 rfl rfl
theorem fn136 : Fun Try.prog 136 := Fun.mk' Try.func136 rfl rfl
theorem fn137 : Fun Try.prog 137 := Fun.mk' Try.func137 rfl rfl
theorem fn138 : Fun Try.prog 138 := Fun.mk' Try.func138 rfl rfl
theorem fn139 : Fun Try.prog 139 := Fun.mk' Try.func139 rfl rfl
theorem fn140 : Fun Try.prog 140 := Fun.mk' Try.func140 rfl rfl
theorem fn141 : Fun Try.prog 141 := Fun.mk' Try.func141 rfl rfl
theorem fn142 : Fun Try.prog 142 := Fun.mk' Try.func142 rfl rfl
theorem fn143 : Fun Try.prog 143 := Fun.mk' Try.func143 rfl rfl
theorem fn144 : Fun Try.prog 144 := Fun.mk' Try.func144 rfl rfl
theorem fn145 : Fun Try.prog 145 := Fun.mk' Try.func145 rfl rfl
theorem fn146 : Fun Try.prog 146 := Fun.mk' Try.func146 rfl rfl
theorem fn147 : Fun Try.prog 147 := Fun.mk' Try.func147 rfl rfl
theorem fn148 : Fun Try.prog 148 := Fun.mk' Try.func148 rfl rfl
theorem fn149 : Fun Try.prog 149 := Fun.mk' Try.func149 rfl rfl
theorem fn150 : Fun Try.prog 150 := Fun.mk' Try.func150 rfl rfl
theorem fn151 : Fun Try.prog 151 := Fun.mk' Try.func151 rfl rfl
theorem fn152 : Fun Try.prog 152 := Fun.mk' Try.func152 rfl rfl
theorem fn153 : Fun Try.prog 153 := Fun.mk' Try.func153 rfl rfl
theorem fn154 : Fun Try.prog 154 := Fun.mk' Try.func154 rfl rfl
theorem fn155 : Fun Try.prog 155 := Fun.mk' Try.func155 rfl rfl
theorem fn156 : Fun Try.prog 156 := Fun.mk' Try.func156 rfl rfl
theorem fn157 : Fun Try.prog 157 := Fun.mk' Try.func157 rfl rfl
theorem fn158 : Fun Try.prog 158 := Fun.mk' Try.func158 rfl rfl
theorem fn159 : Fun Try.prog 159 := Fun.mk' Try.func159 rfl rfl
theorem fn160 : Fun Try.prog 160 := Fun.mk' Try.func160 rfl rfl
theorem fn161 : Fun Try.prog 161 := Fun.mk' Try.func161 rfl rfl
theorem fn162 : Fun Try.prog 162 := Fun.mk' Try.func162 rfl rfl
theorem fn163 : Fun Try.prog 163 := Fun.mk' Try.func163 rfl rfl
theorem fn164 : Fun Try.prog 164 := Fun.mk' Try.func164 rfl rfl
theorem fn165 : Fun Try.prog 165 := Fun.mk' Try.func165 rfl rfl
theorem fn166 : Fun Try.prog 166 := Fun.mk' Try.func166 rfl rfl
theorem fn167 : Fun Try.prog 167 := Fun.mk' Try.func167 rfl rfl
theorem fn168 : Fun Try.prog 168 := Fun.mk' Try.func168 rfl rfl
theorem fn169 : Fun Try.prog 169 := Fun.mk' Try.func169 rfl rfl
theorem fn170 : Fun Try.prog 170 := Fun.mk' Try.func170 rfl rfl
theorem fn171 : Fun Try.prog 171 := Fun.mk' Try.func171 rfl rfl
theorem fn172 : Fun Try.prog 172 := Fun.mk' Try.func172 rfl rfl
theorem fn173 : Fun Try.prog 173 := Fun.mk' Try.func173 rfl rfl
theorem fn174 : Fun Try.prog 174 := Fun.mk' Try.func174 rfl rfl
attribute [go_sem] ft_26_0 ft_26_1 ft_26_2 ft_26_3 ft_28_0 ft_28_1 ft_39_0 ft_39_1 ft_39_2 ft_39_3 ft_65_0 ft_65_1 ft_65_2 ft_72_0 ft_72_1 ft_72_2 ft_83_0 ft_83_1 ft_83_2 ft_83_3 ft_83_4 ft_83_5 ft_83_6 ft_92_0 ft_92_1 ft_92_2 ft_107_0 ft_107_1 ft_107_2 ft_107_3 ft_107_4 ft_107_5 ft_107_6 Try.underlying22 Try.underlying23 Try.underlying24 Try.underlying37 Try.underlying45 Try.underlying50 Try.underlying57 Try.underlying90 Try.underlying109 cc_3 in_3 ag_3 cc_4 in_4 ag_4 cc_5 in_5 ag_5 cc_22 in_22 ag_22 cc_23 in_23 ag_23 cc_24 in_24 ag_24 cc_26 in_26 ag_26 cc_28 in_28 ag_28 cc_37 in_37 ag_37 cc_39 in_39 ag_39 cc_45 in_45 ag_45 cc_50 in_50 ag_50 cc_65 in_65 ag_65 cc_72 in_72 ag_72 cc_83 in_83 ag_83 cc_90 in_90 ag_90 cc_92 in_92 ag_92 cc_107 in_107 ag_107 cc_109 in_109 ag_109 cc_152 in_152 ag_152 by_3 by_4 by_5 by_26 by_45 by_50 by_83 by_107 Try.underlying3 Try.underlying4 Try.underlying5 Try.underlying9 zt_3 zt_4 zt_5 zt_22 zt_23 zt_24 zt_26 zt_28 zt_37 zt_39 zt_45 zt_50 zt_65 zt_72 zt_83 zt_90 zt_92 zt_107 zt_109 zt_152 pl_26 pl_28 pl_65 pl_72 pl_83 pl_92 zs_3 zs_4 zs_5 zs_22 zs_23 zs_24 zs_26 zs_28 zs_37 zs_39 zs_45 zs_50 zs_65 zs_72 zs_83 zs_90 zs_92 zs_107 zs_109 zs_152
end Go.Proofs.Ytnbahnpckfelpaa.VL
